/- Do two ciphertexts match: both sides. (Printed by genmatch.py.)
The program's 'made': a ciphertext whose parts a function makes. (Printed by genmade.py.) -/
import Derived.Test.YtcipjbckcnkfaaaGreatPs40
import Derived.Test.YtcipjbckcnkfaaaGreatPs38
set_option linter.unusedSimpArgs false
set_option linter.unusedVariables false
namespace Go.Proofs.YtcipjbckcnkfaaaGreat
open Go.RowKit

/-- Two valid ciphertexts that match. -/
def CiMatch (p : Par) (A B : Ci) : Prop := CiOk p A ∧ CiOk p B ∧ B.level = A.level ∧ B.exponent = A.exponent
theorem chk_cases (q : Prop) : (q ∧ chk q = 0) ∨ (¬ q ∧ chk q = 2) := by
  rcases Classical.em q with h | h
  · exact .inl ⟨h, chk_pos h⟩
  · exact .inr ⟨h, chk_neg h⟩

set_option maxHeartbeats 6400000 in
set_option maxRecDepth 100000 in
theorem arMatch_walk (p : Par) (ca : Option Addr) (cc : Nat) (A B : Ci) (aa ab : Option Addr) (cA cB : Nat) (w : World) (hin : ParIn w p ca cc) (hA : CiIn w A aa cA) (hB : CiIn w B ab cB) :
    Calls Tryz.prog 35 #[.agg (p.cells ca cc), A.val aa cA, B.val ab cB] w fun e w' => e = .returned (.bool (tr (CiMatch p A B))) ∧ Below w.heap.size w w' := by
  have H1 := Lib.hid (fun (w' : World) (hb : Below w.heap.size w w') => ciCheck_walk p ca cc A aa cA w' (hin.below hb) (hA.below hb))
  have H2 := Lib.hid (fun (w' : World) (hb : Below w.heap.size w w') => ciCheck_walk p ca cc B ab cB w' (hin.below hb) (hB.below hb))
  obtain ⟨T, hT⟩ : ∃ T, tr (CiMatch p A B) = T := ⟨_, rfl⟩
  rw [hT]
  have HN : Hid (¬ CiMatch p A B → T = false) := Lib.hid (fun h => by rw [← hT]; exact tr_neg h)
  have HY : Hid (CiMatch p A B → T = true) := Lib.hid (fun h => by rw [← hT]; exact tr_pos h)
  have hc1 := chk_cases (CiOk p A)
  have hc2 := chk_cases (CiOk p B)
  obtain ⟨ma, hma⟩ : ∃ ma, A.parts.length = ma := ⟨_, rfl⟩
  obtain ⟨mb, hmb⟩ : ∃ mb, B.parts.length = mb := ⟨_, rfl⟩
  obtain ⟨la, hla⟩ : ∃ la, A.level = la := ⟨_, rfl⟩
  obtain ⟨lb, hlb⟩ : ∃ lb, B.level = lb := ⟨_, rfl⟩
  obtain ⟨ea, hea⟩ : ∃ ea, A.exponent = ea := ⟨_, rfl⟩
  obtain ⟨eb, heb⟩ : ∃ eb, B.exponent = eb := ⟨_, rfl⟩
  have HM : Hid (CiMatch p A B ↔ CiOk p A ∧ CiOk p B ∧ lb = la ∧ eb = ea) := Lib.hid (by unfold CiMatch; rw [hla, hlb, hea, heb])
  unfold Ci.val Par.cells at *
  rw [hma, hla, hea] at H1 ⊢
  rw [hmb, hlb, heb] at H2 ⊢
  clear hin hA hB hT hma hmb hla hlb hea heb
  rcases hc1 with ⟨k1, hc1⟩ | ⟨k1, hc1⟩
  case' inr =>
    rw [hc1] at H1
    have HR : Hid (T = false) := Lib.hid (HN.out (fun h => k1 (HM.out.1 h).1))
    clear hc1 hc2 k1
  case' inl =>
    rcases hc2 with ⟨k2, hc2⟩ | ⟨k2, hc2⟩
    case' inr =>
      rw [hc1] at H1
      rw [hc2] at H2
      have HR : Hid (T = false) := Lib.hid (HN.out (fun h => k2 (HM.out.1 h).2.1))
      clear hc1 hc2 k1 k2
    case' inl =>
      rw [hc1] at H1
      rw [hc2] at H2
      by_cases g1 : la = lb
      case' neg =>
        have HR : Hid (T = false) := Lib.hid (HN.out (fun h => g1 (HM.out.1 h).2.2.1.symm))
        have g1' : (la == lb) = false := by simp [g1]
        clear hc1 hc2 k1 k2 g1
      case' pos =>
        by_cases g2 : ea = eb
        case' neg =>
          have HR : Hid (T = false) := Lib.hid (HN.out (fun h => g2 (HM.out.1 h).2.2.2.symm))
          have g1' : (la == lb) = true := by simp [g1]
          have g2' : (ea == eb) = false := by simp [g2]
          clear hc1 hc2 k1 k2 g1 g2
        case' pos =>
          have HR : Hid (T = true) := Lib.hid (HY.out (HM.out.2 ⟨k1, k2, g1.symm, g2.symm⟩))
          have g1' : (la == lb) = true := by simp [g1]
          have g2' : (ea == eb) = true := by simp [g2]
          clear hc1 hc2 k1 k2 g1 g2
  all_goals (
    go_enter Tryz.func35, Tryz.ntmps35
    go_wp2_with fail
    (with_reducible refine Calls.mono (H1.out _ (by with_reducible (repeat first | exact bR _ _ | assumption | exact ho (by assumption) | refine bD ?_ | refine bN ?_ _ | refine bA ?_ ?_ _ | refine bS ?_ ?_ _) <;> (first | omega | (simp <;> omega)))) ?_)
    rintro e w2 ⟨rfl, hb⟩
    obtain ⟨hc_w2, hf_w2⟩ := bcell hb
    have HB_w2 : Hid (Below w.heap.size w w2) := Lib.hid (below_step (by with_reducible (repeat first | exact bR _ _ | assumption | exact ho (by assumption) | refine bD ?_ | refine bN ?_ _ | refine bA ?_ ?_ _ | refine bS ?_ ?_ _) <;> (first | omega | (simp <;> omega))) hb)
    have hs_w2 := hb.size
    try simp only [World.size_alloc, sz_set, sz_drew, sz_drewN] at hs_w2
    have q0_w2 : w.heap.size < w2.heap.size := by omega
    have q1_w2 : w.heap.size + 1 < w2.heap.size := by omega
    have q2_w2 : w.heap.size + 1 + 1 < w2.heap.size := by omega
    have HK_w2 := Lib.hid hb
    clear hb
    first
    | (go_wp2_with fail
       go_ret
       exact ⟨congrArg (fun b => Ending.returned (Value.bool b)) HR.out.symm, (by with_reducible (repeat first | exact bR _ _ | assumption | exact ho (by assumption) | refine bD ?_ | refine bN ?_ _ | refine bA ?_ ?_ _ | refine bS ?_ ?_ _) <;> (first | omega | (simp <;> omega)))⟩)
    | (go_wp2_with fail
       (with_reducible refine Calls.mono (H2.out _ (by with_reducible (repeat first | exact bR _ _ | assumption | exact ho (by assumption) | refine bD ?_ | refine bN ?_ _ | refine bA ?_ ?_ _ | refine bS ?_ ?_ _) <;> (first | omega | (simp <;> omega)))) ?_)
       rintro e w3 ⟨rfl, hb⟩
       obtain ⟨hc_w3, hf_w3⟩ := bcell hb
       have HB_w3 : Hid (Below w.heap.size w w3) := Lib.hid (below_step (by with_reducible (repeat first | exact bR _ _ | assumption | exact ho (by assumption) | refine bD ?_ | refine bN ?_ _ | refine bA ?_ ?_ _ | refine bS ?_ ?_ _) <;> (first | omega | (simp <;> omega))) hb)
       have hs_w3 := hb.size
       try simp only [World.size_alloc, sz_set, sz_drew, sz_drewN] at hs_w3
       have q0_w3 : w.heap.size < w3.heap.size := by omega
       have q1_w3 : w.heap.size + 1 < w3.heap.size := by omega
       have q2_w3 : w.heap.size + 1 + 1 < w3.heap.size := by omega
       have HK_w3 := Lib.hid hb
       clear hb
       go_wp2
       go_ret
       exact ⟨congrArg (fun b => Ending.returned (Value.bool b)) HR.out.symm, (by with_reducible (repeat first | exact bR _ _ | assumption | exact ho (by assumption) | refine bD ?_ | refine bN ?_ _ | refine bA ?_ ?_ _ | refine bS ?_ ?_ _) <;> (first | omega | (simp <;> omega)))⟩))

set_option maxHeartbeats 6400000 in
set_option maxRecDepth 100000 in
theorem r16match_walk (p : Par) (ca : Option Addr) (cc : Nat) (A B : Ci) (aa ab : Option Addr) (cA cB : Nat) (w : World) (hin : ParIn w p ca cc) (hA : CiIn w A aa cA) (hB : CiIn w B ab cB) :
    Calls Tryz.prog 40 #[.agg (p.cells ca cc), A.val aa cA, B.val ab cB] w fun e w' => e = .returned (.bool (tr (CiMatch p A B))) ∧ Below w.heap.size w w' := by
  have H1 := Lib.hid (fun (w' : World) (hb : Below w.heap.size w w') => r14Check_walk p ca cc A aa cA w' (hin.below hb) (hA.below hb))
  have H2 := Lib.hid (fun (w' : World) (hb : Below w.heap.size w w') => r14Check_walk p ca cc B ab cB w' (hin.below hb) (hB.below hb))
  obtain ⟨T, hT⟩ : ∃ T, tr (CiMatch p A B) = T := ⟨_, rfl⟩
  rw [hT]
  have HN : Hid (¬ CiMatch p A B → T = false) := Lib.hid (fun h => by rw [← hT]; exact tr_neg h)
  have HY : Hid (CiMatch p A B → T = true) := Lib.hid (fun h => by rw [← hT]; exact tr_pos h)
  have hc1 := chk_cases (CiOk p A)
  have hc2 := chk_cases (CiOk p B)
  obtain ⟨ma, hma⟩ : ∃ ma, A.parts.length = ma := ⟨_, rfl⟩
  obtain ⟨mb, hmb⟩ : ∃ mb, B.parts.length = mb := ⟨_, rfl⟩
  obtain ⟨la, hla⟩ : ∃ la, A.level = la := ⟨_, rfl⟩
  obtain ⟨lb, hlb⟩ : ∃ lb, B.level = lb := ⟨_, rfl⟩
  obtain ⟨ea, hea⟩ : ∃ ea, A.exponent = ea := ⟨_, rfl⟩
  obtain ⟨eb, heb⟩ : ∃ eb, B.exponent = eb := ⟨_, rfl⟩
  have HM : Hid (CiMatch p A B ↔ CiOk p A ∧ CiOk p B ∧ lb = la ∧ eb = ea) := Lib.hid (by unfold CiMatch; rw [hla, hlb, hea, heb])
  unfold Ci.val Par.cells at *
  rw [hma, hla, hea] at H1 ⊢
  rw [hmb, hlb, heb] at H2 ⊢
  clear hin hA hB hT hma hmb hla hlb hea heb
  rcases hc1 with ⟨k1, hc1⟩ | ⟨k1, hc1⟩
  case' inr =>
    rw [hc1] at H1
    have HR : Hid (T = false) := Lib.hid (HN.out (fun h => k1 (HM.out.1 h).1))
    clear hc1 hc2 k1
  case' inl =>
    rcases hc2 with ⟨k2, hc2⟩ | ⟨k2, hc2⟩
    case' inr =>
      rw [hc1] at H1
      rw [hc2] at H2
      have HR : Hid (T = false) := Lib.hid (HN.out (fun h => k2 (HM.out.1 h).2.1))
      clear hc1 hc2 k1 k2
    case' inl =>
      rw [hc1] at H1
      rw [hc2] at H2
      by_cases g1 : la = lb
      case' neg =>
        have HR : Hid (T = false) := Lib.hid (HN.out (fun h => g1 (HM.out.1 h).2.2.1.symm))
        have g1' : (la == lb) = false := by simp [g1]
        clear hc1 hc2 k1 k2 g1
      case' pos =>
        by_cases g2 : ea = eb
        case' neg =>
          have HR : Hid (T = false) := Lib.hid (HN.out (fun h => g2 (HM.out.1 h).2.2.2.symm))
          have g1' : (la == lb) = true := by simp [g1]
          have g2' : (ea == eb) = false := by simp [g2]
          clear hc1 hc2 k1 k2 g1 g2
        case' pos =>
          have HR : Hid (T = true) := Lib.hid (HY.out (HM.out.2 ⟨k1, k2, g1.symm, g2.symm⟩))
          have g1' : (la == lb) = true := by simp [g1]
          have g2' : (ea == eb) = true := by simp [g2]
          clear hc1 hc2 k1 k2 g1 g2
  all_goals (
    go_enter Tryz.func40, Tryz.ntmps40
    go_wp2_with fail
    (with_reducible refine Calls.mono (H1.out _ (by with_reducible (repeat first | exact bR _ _ | assumption | exact ho (by assumption) | refine bD ?_ | refine bN ?_ _ | refine bA ?_ ?_ _ | refine bS ?_ ?_ _) <;> (first | omega | (simp <;> omega)))) ?_)
    rintro e w2 ⟨rfl, hb⟩
    obtain ⟨hc_w2, hf_w2⟩ := bcell hb
    have HB_w2 : Hid (Below w.heap.size w w2) := Lib.hid (below_step (by with_reducible (repeat first | exact bR _ _ | assumption | exact ho (by assumption) | refine bD ?_ | refine bN ?_ _ | refine bA ?_ ?_ _ | refine bS ?_ ?_ _) <;> (first | omega | (simp <;> omega))) hb)
    have hs_w2 := hb.size
    try simp only [World.size_alloc, sz_set, sz_drew, sz_drewN] at hs_w2
    have q0_w2 : w.heap.size < w2.heap.size := by omega
    have q1_w2 : w.heap.size + 1 < w2.heap.size := by omega
    have q2_w2 : w.heap.size + 1 + 1 < w2.heap.size := by omega
    have HK_w2 := Lib.hid hb
    clear hb
    first
    | (go_wp2_with fail
       go_ret
       exact ⟨congrArg (fun b => Ending.returned (Value.bool b)) HR.out.symm, (by with_reducible (repeat first | exact bR _ _ | assumption | exact ho (by assumption) | refine bD ?_ | refine bN ?_ _ | refine bA ?_ ?_ _ | refine bS ?_ ?_ _) <;> (first | omega | (simp <;> omega)))⟩)
    | (go_wp2_with fail
       (with_reducible refine Calls.mono (H2.out _ (by with_reducible (repeat first | exact bR _ _ | assumption | exact ho (by assumption) | refine bD ?_ | refine bN ?_ _ | refine bA ?_ ?_ _ | refine bS ?_ ?_ _) <;> (first | omega | (simp <;> omega)))) ?_)
       rintro e w3 ⟨rfl, hb⟩
       obtain ⟨hc_w3, hf_w3⟩ := bcell hb
       have HB_w3 : Hid (Below w.heap.size w w3) := Lib.hid (below_step (by with_reducible (repeat first | exact bR _ _ | assumption | exact ho (by assumption) | refine bD ?_ | refine bN ?_ _ | refine bA ?_ ?_ _ | refine bS ?_ ?_ _) <;> (first | omega | (simp <;> omega))) hb)
       have hs_w3 := hb.size
       try simp only [World.size_alloc, sz_set, sz_drew, sz_drewN] at hs_w3
       have q0_w3 : w.heap.size < w3.heap.size := by omega
       have q1_w3 : w.heap.size + 1 < w3.heap.size := by omega
       have q2_w3 : w.heap.size + 1 + 1 < w3.heap.size := by omega
       have HK_w3 := Lib.hid hb
       clear hb
       go_wp2
       go_ret
       exact ⟨congrArg (fun b => Ending.returned (Value.bool b)) HR.out.symm, (by with_reducible (repeat first | exact bR _ _ | assumption | exact ho (by assumption) | refine bD ?_ | refine bN ?_ _ | refine bA ?_ ?_ _ | refine bS ?_ ?_ _) <;> (first | omega | (simp <;> omega)))⟩))
end Go.Proofs.YtcipjbckcnkfaaaGreat

namespace Go.Proofs.YtcipjbckcnkfaaaGreat
open Go.RowKit Go.Shelf
attribute [local go_sem ↓] Go.wp_at_zero Go.wp_at_succ

/-- A part of the call's own in an array: its three cells, its rows. -/
def OwnPart (w : World) (g base : Nat) (cs : Array Value) (j : Nat) (E : El) : Prop := ∃ ao c bj, cs[j * 3]? = some (.int .i64 E.level) ∧ cs[j * 3 + 1]? = some (.bool E.special) ∧ cs[j * 3 + 2]? = some (.slice ao E.rows.length c) ∧ OwR w bj (.slice ao E.rows.length c) E.rows ∧ base ≤ bj ∧ g < bj
/-- The array of parts: the first k are made. -/
def Parts (w : World) (g base many k : Nat) (f : Nat → El) : Prop := ∃ cs : Array Value, Blk w g 54 cs ∧ cs.size = many * 3 ∧ ∀ j, j < k → OwnPart w g base cs j (f j)
theorem OwnPart.below {w w' : World} {g base j : Nat} {cs : Array Value} {E : El} (h : OwnPart w g base cs j E) (hb : Below w.heap.size w w') : OwnPart w' g base cs j E := by
  obtain ⟨ao, c, bj, h1, h2, h3, h4, h5⟩ := h
  exact ⟨ao, c, bj, h1, h2, h3, h4.below hb, h5⟩
theorem Parts.below {w w' : World} {g base many k : Nat} {f : Nat → El} (h : Parts w g base many k f) (hb : Below w.heap.size w w') : Parts w' g base many k f := by
  obtain ⟨cs, h1, h2, h3⟩ := h
  exact ⟨cs, h1.below hb, h2, fun j hj => (h3 j hj).below hb⟩
/-- One more. -/
theorem Parts.step {w : World} {g base many k : Nat} {f : Nat → El} (h : Parts w g base many k f) (hk : k < many) {ao : Option Addr} {c bj : Nat} (hO : OwR w bj (.slice ao (f k).rows.length c) (f k).rows) (hb : base ≤ bj) (hg : g < bj) :
    Parts (((w.setCell ⟨g, k * 3, none⟩ (.int .i64 (f k).level)).setCell ⟨g, k * 3 + 1, none⟩ (.bool (f k).special)).setCell ⟨g, k * 3 + 2, none⟩ (.slice ao (f k).rows.length c)) g base many (k + 1) f := by
  obtain ⟨cs, h1, h2, h3⟩ := h
  have T : Turn w (((w.setCell ⟨g, k * 3, none⟩ (.int .i64 (f k).level)).setCell ⟨g, k * 3 + 1, none⟩ (.bool (f k).special)).setCell ⟨g, k * 3 + 2, none⟩ (.slice ao (f k).rows.length c)) [g] := (((Turn.refl w [g]).setCell (p := ⟨g, k * 3, none⟩) (.inl (by simp)) _).setCell (p := ⟨g, k * 3 + 1, none⟩) (.inl (by simp)) _).setCell (p := ⟨g, k * 3 + 2, none⟩) (.inl (by simp)) _
  refine ⟨_, ((h1.set (k * 3) _).set (k * 3 + 1) _).set (k * 3 + 2) _, by simp [h2], fun j hj => ?_⟩
  rcases Nat.lt_or_eq_of_le (Nat.le_of_lt_succ hj) with q | rfl
  · obtain ⟨ao', c', bj', k1, k2, k3, k4, k5, k6⟩ := h3 j q
    refine ⟨ao', c', bj', ?_, ?_, ?_, k4.turn T (fun x hx => by simp at hx; omega), k5, k6⟩
    · rw [Array.getElem?_setIfInBounds, if_neg (by omega), Array.getElem?_setIfInBounds, if_neg (by omega), Array.getElem?_setIfInBounds, if_neg (by omega)]; exact k1
    · rw [Array.getElem?_setIfInBounds, if_neg (by omega), Array.getElem?_setIfInBounds, if_neg (by omega), Array.getElem?_setIfInBounds, if_neg (by omega)]; exact k2
    · rw [Array.getElem?_setIfInBounds, if_neg (by omega), Array.getElem?_setIfInBounds, if_neg (by omega), Array.getElem?_setIfInBounds, if_neg (by omega)]; exact k3
  · refine ⟨ao, c, bj, ?_, ?_, ?_, hO.turn T (fun x hx => by simp at hx; omega), hb, hg⟩
    · rw [Array.getElem?_setIfInBounds, if_neg (by omega), Array.getElem?_setIfInBounds, if_neg (by omega), Array.getElem?_setIfInBounds, if_pos rfl, if_pos (by omega)]
    · rw [Array.getElem?_setIfInBounds, if_neg (by omega), Array.getElem?_setIfInBounds, if_pos rfl, if_pos (by simp; omega)]
    · rw [Array.getElem?_setIfInBounds, if_pos rfl, if_pos (by simp; omega)]
/-- A ciphertext of the call's own. -/
def PutCi (base : Nat) (level exponent : Int) (many : Nat) (f : Nat → El) (e : Ending) (w' : World) : Prop := ∃ g, e = .returned (.tuple #[.agg #[.int .i64 level, .int .i64 exponent, .slice (some ⟨g, 0, none⟩) many many], .int .i64 0]) ∧ base ≤ g ∧ Parts w' g base many many f

set_option maxHeartbeats 6400000 in
set_option maxRecDepth 100000 in
theorem arMade_walk (level exponent : Int) (ao : Option Addr) (np c many : Nat) (fn : FuncId) (caps : Array Value) (f : Nat → El) (w : World) (hm : many ≤ 1000)
    (hen : ∀ args w, (callFunc fn args).run Tryz.prog w = .ok (.enter fn args) w) (hP : ∀ i, i < many → ∀ w', Below w.heap.size w w' → Calls Tryz.prog fn (#[.int .i64 (i : Int)] ++ caps) w' fun e w2 => PutEl w'.heap.size (f i) e w2 ∧ Below w'.heap.size w' w2) :
    Calls Tryz.prog 36 #[.agg #[.int .i64 level, .int .i64 exponent, .slice ao np c], .int .i64 (many : Int), .func (.func fn) #[] caps] w fun e w' => PutCi w.heap.size level exponent many f e w' ∧ Below w.heap.size w w' := by
  have HP := Lib.hid hP
  have hmk := makeEs many hm
  clear hP
  go_enter Tryz.func36, Tryz.ntmps36
  go_wp2
  refine wp_region_L (fun w' => w'.cell? ⟨w.heap.size, 0, none⟩ = some (.int .i64 level) ∧ w'.cell? ⟨w.heap.size, 1, none⟩ = some (.int .i64 exponent)) 9 (by kernel_rfl) (by kernel_rfl) (by kernel_rfl) ?_
  have hS : (fun w' : World => w'.cell? ⟨w.heap.size, 0, none⟩ = some (.int .i64 level) ∧ w'.cell? ⟨w.heap.size, 1, none⟩ = some (.int .i64 exponent)) ((w.alloc (.cells #[.int .i64 level, .int .i64 exponent, .slice ao np c] 28)).alloc (.cells #[.int .i64 0, .int .i64 0, .slice none 0 0] 28)).drew := by constructor <;> simp [go_sem]
  refine tJ 0 (v := ?_) (by assumption) ?_ ?_
  rotate_left
  · (intro w h; (try dsimp only at h); go_simp; try with_reducible rfl)
  try simp only [Act.put, gA, gB, gC, sA, sB, sC]
  refine tJ 1 (v := ?_) (by assumption) ?_ ?_
  rotate_left
  · (intro w h; (try dsimp only at h); go_simp; try with_reducible rfl)
  try simp only [Act.put, gA, gB, gC, sA, sB, sC]
  refine tJ 2 (v := ?_) (by assumption) ?_ ?_
  rotate_left
  · (intro w h; (try dsimp only at h); go_simp; try with_reducible rfl)
  try simp only [Act.put, gA, gB, gC, sA, sB, sC]
  refine tJ 3 (v := ?_) (by assumption) ?_ ?_
  rotate_left
  · (intro w h; (try dsimp only at h); go_simp; try with_reducible rfl)
  try simp only [Act.put, gA, gB, gC, sA, sB, sC]
  refine tJ 4 (v := ?_) (by assumption) ?_ ?_
  rotate_left
  · (intro w h; (try dsimp only at h); go_simp; try with_reducible rfl)
  try simp only [Act.put, gA, gB, gC, sA, sB, sC]
  refine wpL.two 5 7 rfl rfl (by kernel_rfl) rfl rfl ?_ ?_ <;> intro K hK
  · go_wp2
    refine hK _ _ (⟨by simp [go_sem], by simp [go_sem]⟩) (fun hS => ?_)
    clear hK
    try simp only [Act.put, gA, gB, gC, sA, sB, sC]
    refine tJ 6 (v := ?_) (by assumption) ?_ ?_
    rotate_left
    · (intro w h; (try dsimp only at h); go_simp; try with_reducible rfl)
    try simp only [Act.put, gA, gB, gC, sA, sB, sC]
    refine wpL.eff 7 rfl (by kernel_rfl) rfl ?_
    intro K hK
    go_wp2
    refine hK _ _ (⟨by simp [go_sem], by simp [go_sem]⟩) (fun hS => ?_)
    clear hK
    try simp only [Act.put, gA, gB, gC, sA, sB, sC]
    refine wpL.eff 8 rfl (by kernel_rfl) rfl ?_
    intro K hK
    go_wp2
    refine hK _ _ (⟨by simp [go_sem], by simp [go_sem]⟩) (fun hS => ?_)
    clear hK
    try simp only [Act.put, gA, gB, gC, sA, sB, sC]

    refine wpL.done (by kernel_rfl) ?_
    have hA : Blk ((((w.alloc (.cells #[.int .i64 level, .int .i64 exponent, .slice ao np c] 28)).alloc (.cells #[.int .i64 0, .int .i64 0, .slice none 0 0] 28)).alloc (.cells (zeroEs many) 54)).alloc (.cells #[.int .i64 level, .int .i64 exponent, .slice (some ⟨w.heap.size + 1 + 1, 0, none⟩) many many] 28)).drew (w.heap.size + 1 + 1) 54 (zeroEs many) := (by repeat (first | exact Blk.newAt (by (first | omega | (simp only [World.size_alloc, sz_set, sz_drew, sz_drewN]; done) | (simp only [World.size_alloc, sz_set, sz_drew, sz_drewN]; omega))) | (with_reducible refine Blk.alloc ?_ _) | (with_reducible refine Blk.drew ?_) | (with_reducible refine Blk.drewN ?_ _) | (with_reducible refine Blk.belowB ?_ (Hid.out (by assumption)) ?szk; case szk => (first | omega | (simp only [World.size_alloc, sz_set, sz_drew, sz_drewN]; done) | (simp only [World.size_alloc, sz_set, sz_drew, sz_drewN]; omega)))))
    have h8 : Blk ((((w.alloc (.cells #[.int .i64 level, .int .i64 exponent, .slice ao np c] 28)).alloc (.cells #[.int .i64 0, .int .i64 0, .slice none 0 0] 28)).alloc (.cells (zeroEs many) 54)).alloc (.cells #[.int .i64 level, .int .i64 exponent, .slice (some ⟨w.heap.size + 1 + 1, 0, none⟩) many many] 28)).drew (w.heap.size + 1 + 1 + 1) 28 #[.int .i64 level, .int .i64 exponent, .slice (some ⟨(w.heap.size + 1 + 1), 0, none⟩) many many] := (by repeat (first | exact Blk.newAt (by (first | omega | (simp only [World.size_alloc, sz_set, sz_drew, sz_drewN]; done) | (simp only [World.size_alloc, sz_set, sz_drew, sz_drewN]; omega))) | (with_reducible refine Blk.alloc ?_ _) | (with_reducible refine Blk.drew ?_) | (with_reducible refine Blk.drewN ?_ _) | (with_reducible refine Blk.belowB ?_ (Hid.out (by assumption)) ?szk; case szk => (first | omega | (simp only [World.size_alloc, sz_set, sz_drew, sz_drewN]; done) | (simp only [World.size_alloc, sz_set, sz_drew, sz_drewN]; omega)))))
    have h6 : Blk ((((w.alloc (.cells #[.int .i64 level, .int .i64 exponent, .slice ao np c] 28)).alloc (.cells #[.int .i64 0, .int .i64 0, .slice none 0 0] 28)).alloc (.cells (zeroEs many) 54)).alloc (.cells #[.int .i64 level, .int .i64 exponent, .slice (some ⟨w.heap.size + 1 + 1, 0, none⟩) many many] 28)).drew (w.heap.size + 1) 28 #[.int .i64 0, .int .i64 0, .slice none 0 0] := (by repeat (first | exact Blk.newAt (by (first | omega | (simp only [World.size_alloc, sz_set, sz_drew, sz_drewN]; done) | (simp only [World.size_alloc, sz_set, sz_drew, sz_drewN]; omega))) | (with_reducible refine Blk.alloc ?_ _) | (with_reducible refine Blk.drew ?_) | (with_reducible refine Blk.drewN ?_ _) | (with_reducible refine Blk.belowB ?_ (Hid.out (by assumption)) ?szk; case szk => (first | omega | (simp only [World.size_alloc, sz_set, sz_drew, sz_drewN]; done) | (simp only [World.size_alloc, sz_set, sz_drew, sz_drewN]; omega)))))
    have hB : Below w.heap.size w ((((w.alloc (.cells #[.int .i64 level, .int .i64 exponent, .slice ao np c] 28)).alloc (.cells #[.int .i64 0, .int .i64 0, .slice none 0 0] 28)).alloc (.cells (zeroEs many) 54)).alloc (.cells #[.int .i64 level, .int .i64 exponent, .slice (some ⟨w.heap.size + 1 + 1, 0, none⟩) many many] 28)).drew := (by with_reducible (repeat first | exact bR _ _ | assumption | exact ho (by assumption) | refine bD ?_ | refine bN ?_ _ | refine bA ?_ ?_ _ | refine bS ?_ ?_ _) <;> (first | omega | (simp <;> omega)))
    have hsz : ((((w.alloc (.cells #[.int .i64 level, .int .i64 exponent, .slice ao np c] 28)).alloc (.cells #[.int .i64 0, .int .i64 0, .slice none 0 0] 28)).alloc (.cells (zeroEs many) 54)).alloc (.cells #[.int .i64 level, .int .i64 exponent, .slice (some ⟨w.heap.size + 1 + 1, 0, none⟩) many many] 28)).drew.heap.size = w.heap.size + 1 + 1 + 1 + 1 := by simp [World.size_alloc, sz_drew]

    obtain ⟨W, hW⟩ : ∃ W, ((((w.alloc (.cells #[.int .i64 level, .int .i64 exponent, .slice ao np c] 28)).alloc (.cells #[.int .i64 0, .int .i64 0, .slice none 0 0] 28)).alloc (.cells (zeroEs many) 54)).alloc (.cells #[.int .i64 level, .int .i64 exponent, .slice (some ⟨w.heap.size + 1 + 1, 0, none⟩) many many] 28)).drew = W := ⟨_, rfl⟩
    rw [hW] at hA h8 h6 hB hsz ⊢
    have HA : Hid (Parts W (w.heap.size + 1 + 1) w.heap.size many 0 f) := Lib.hid ⟨_, hA, zeroEs_size many, fun j hj => by omega⟩
    have H8 := Lib.hid h8
    have H6 := Lib.hid h6
    have HB := Lib.hid hB
    obtain ⟨e0, e1, e2⟩ := el_cells h8
    clear hW hA h8 h6 hB hmk
    try clear hS
    go_wp2
    go_loopg [22] many (fun fu v wr => ∃ k : Nat, v = .int .i64 k ∧ k ≤ many ∧ many - k ≤ fu ∧ Hid (Parts wr (w.heap.size + 1 + 1) w.heap.size many k f) ∧ Hid (Turn W wr [(w.heap.size + 1 + 1)]))
    case atStart => exact ⟨0, rfl, by omega, by omega, HA, Lib.hid (Turn.refl _ _)⟩
    case round =>
      obtain ⟨k, rfl, hk, hfu, HPa, HT⟩ := hrel
      have hsr := HT.out.size
      have n8 : (w.heap.size + 1 + 1 + 1) ≠ (w.heap.size + 1 + 1) := by omega
      have n6 : w.heap.size + 1 ≠ (w.heap.size + 1 + 1) := by omega
      have hb8 := H8.out.turn HT.out (by simp)
      have HBw : Hid (Below w.heap.size w wr) := Lib.hid (HB.out.trans (HT.out.belowN HB.out.size (fun x hx => by simp at hx; omega)))
      obtain ⟨d0, d1, d2⟩ := el_cells hb8
      by_cases hkl : k < many
      case neg =>
        obtain rfl : k = many := by omega
        have hb6 := H6.out.turn HT.out (by simp)
        obtain ⟨k0, k1, k2⟩ := el_cells hb6
        have f0 := hb6.free 0
        have f1 := hb6.free 1
        have f2 := hb6.free 2
        clear hb6 hb8
        go_wp2
        refine bodyPost_ret (v := .tuple #[.agg #[.int .i64 level, .int .i64 exponent, .slice (some ⟨(w.heap.size + 1 + 1), 0, none⟩) k k], .int .i64 0]) (by simp [results, Tryz.results36, go_sem, k0, k1, k2]) rfl ⟨⟨(w.heap.size + 1 + 1), rfl, by omega, ?_⟩, (by with_reducible (repeat first | exact bR _ _ | assumption | exact ho (by assumption) | refine bD ?_ | refine bN ?_ _ | refine bA ?_ ?_ _ | refine bS ?_ ?_ _) <;> (first | omega | (simp <;> omega)))⟩
        obtain ⟨cs, p1, p2, p3⟩ := HPa.out
        refine ⟨cs, ((p1.far (p := ⟨w.heap.size + 1, 0, none⟩) (by (try dsimp only); omega) _).far (p := ⟨w.heap.size + 1, 1, none⟩) (by (try dsimp only); omega) _).far (p := ⟨w.heap.size + 1, 2, none⟩) (by (try dsimp only); omega) _, p2, fun j hj => ?_⟩
        obtain ⟨ao', c', bj, q1, q2, q3, q4, q5, q6⟩ := p3 j hj
        exact ⟨ao', c', bj, q1, q2, q3, q4.turn (S := [w.heap.size + 1]) ((((Turn.refl wr _).setCell (p := ⟨w.heap.size + 1, 0, none⟩) (.inl (by simp)) _).setCell (p := ⟨w.heap.size + 1, 1, none⟩) (.inl (by simp)) _).setCell (p := ⟨w.heap.size + 1, 2, none⟩) (.inl (by simp)) _) (fun x hx => by simp at hx; omega), q5, q6⟩
      have hcall := HP.out k hkl wr HBw.out
      have HC := Lib.hid hcall
      have HST : Hid (∀ W2 (ao2 : Option Addr) (c2 : Nat), Below wr.heap.size wr W2 → OwR W2 wr.heap.size (.slice ao2 (f k).rows.length c2) (f k).rows → Parts (((W2.setCell ⟨(w.heap.size + 1 + 1), k * 3, none⟩ (.int .i64 (f k).level)).setCell ⟨(w.heap.size + 1 + 1), k * 3 + 1, none⟩ (.bool (f k).special)).setCell ⟨(w.heap.size + 1 + 1), k * 3 + 2, none⟩ (.slice ao2 (f k).rows.length c2)) (w.heap.size + 1 + 1) w.heap.size many (k + 1) f ∧ Turn W (((W2.setCell ⟨(w.heap.size + 1 + 1), k * 3, none⟩ (.int .i64 (f k).level)).setCell ⟨(w.heap.size + 1 + 1), k * 3 + 1, none⟩ (.bool (f k).special)).setCell ⟨(w.heap.size + 1 + 1), k * 3 + 2, none⟩ (.slice ao2 (f k).rows.length c2)) [(w.heap.size + 1 + 1)]) := Lib.hid (fun W2 ao2 c2 hb hO =>
        ⟨(HPa.out.below hb).step hkl hO (by omega) (by omega), (((HT.out.trans (Turn.of_below hb)).setCell (p := ⟨(w.heap.size + 1 + 1), k * 3, none⟩) (.inl (by simp)) _).setCell (p := ⟨(w.heap.size + 1 + 1), k * 3 + 1, none⟩) (.inl (by simp)) _).setCell (p := ⟨(w.heap.size + 1 + 1), k * 3 + 2, none⟩) (.inl (by simp)) _⟩)
      have HCE : Hid (∀ W2, Below wr.heap.size wr W2 → (∃ x, W2.cell? ⟨(w.heap.size + 1 + 1), k * 3, none⟩ = some x) ∧ (∃ x, W2.cell? ⟨(w.heap.size + 1 + 1), k * 3 + 1, none⟩ = some x) ∧ (∃ x, W2.cell? ⟨(w.heap.size + 1 + 1), k * 3 + 2, none⟩ = some x) ∧ (∀ i, W2.frozen? ⟨(w.heap.size + 1 + 1), i, none⟩ = false)) := Lib.hid (fun W2 hb => by
        obtain ⟨cs, p1, p2, p3⟩ := HPa.out.below hb
        have hh : ∀ i, i < many * 3 → ∃ x, W2.cell? ⟨(w.heap.size + 1 + 1), i, none⟩ = some x := fun i hi => ⟨cs[i]'(by omega), by rw [p1.cell i]; exact Array.getElem?_eq_getElem _⟩
        exact ⟨hh _ (by omega), hh _ (by omega), hh _ (by omega), fun i => p1.free i⟩)
      obtain ⟨E, hE⟩ : ∃ E, f k = E := ⟨_, rfl⟩
      rw [hE] at HC HST
      unfold PutEl El.val at HC
      clear hcall hE hb8
      go_wp2_with fail
      (with_reducible refine Calls.mono HC.out ?_)
      rintro e w5 ⟨⟨a5, c5, rfl, hO5⟩, hb5⟩
      obtain ⟨⟨x0, y0⟩, ⟨x1, y1⟩, ⟨x2, y2⟩, z0⟩ := HCE.out w5 hb5
      obtain ⟨g0, g1, g2⟩ := el_cells ((H8.out.turn HT.out (by simp)).below hb5)
      have hs5 := hb5.size
      have hga : (w.heap.size + 1 + 1) < w5.heap.size := by omega
      have hg8 : (w.heap.size + 1 + 1 + 1) < w5.heap.size := by omega
      have HW5 : Hid (Below wr.heap.size wr w5) := Lib.hid hb5
      have HO5 := Lib.hid hO5
      have i0 : (0 : Int) ≤ (k : Int) := Int.natCast_nonneg _
      have i1 : (k : Int) < (many : Int) := by omega
      clear hb5 hO5 d0 d1 d2 HC
      go_wp2
      go_roundg (many - (k + 1))
      case measure => omega
      case rel =>
        obtain ⟨s1, s2⟩ := HST.out w5 a5 c5 HW5.out HO5.out
        exact ⟨k + 1, by go_num, by omega, Nat.le_refl _, Lib.hid (s1.below ((Below.refl _ _).alloc (Nat.le_refl _) _)), Lib.hid (s2.alloc _)⟩
  · go_wp2
    refine hK _ _ (⟨by simp [go_sem], by simp [go_sem]⟩) (fun hS => ?_)
    clear hK
    try simp only [Act.put, gA, gB, gC, sA, sB, sC]
    refine wpL.eff 5 rfl (by kernel_rfl) rfl ?_
    intro K hK
    go_wp2
    refine hK _ _ (⟨by simp [go_sem], by simp [go_sem]⟩) (fun hS => ?_)
    clear hK
    try simp only [Act.put, gA, gB, gC, sA, sB, sC]
    refine tJ 6 (v := ?_) (by assumption) ?_ ?_
    rotate_left
    · (intro w h; (try dsimp only at h); go_simp; try with_reducible rfl)
    try simp only [Act.put, gA, gB, gC, sA, sB, sC]
    refine wpL.eff 8 rfl (by kernel_rfl) rfl ?_
    intro K hK
    go_wp2
    refine hK _ _ (⟨by simp [go_sem], by simp [go_sem]⟩) (fun hS => ?_)
    clear hK
    try simp only [Act.put, gA, gB, gC, sA, sB, sC]

    refine wpL.done (by kernel_rfl) ?_
    have hA : Blk ((((w.alloc (.cells #[.int .i64 level, .int .i64 exponent, .slice ao np c] 28)).alloc (.cells #[.int .i64 0, .int .i64 0, .slice none 0 0] 28)).alloc (.cells #[.int .i64 level, .int .i64 exponent, .slice (some ⟨w.heap.size + 1 + 1 + 1, 0, none⟩) many many] 28)).alloc (.cells (zeroEs many) 54)).drew (w.heap.size + 1 + 1 + 1) 54 (zeroEs many) := (by repeat (first | exact Blk.newAt (by (first | omega | (simp only [World.size_alloc, sz_set, sz_drew, sz_drewN]; done) | (simp only [World.size_alloc, sz_set, sz_drew, sz_drewN]; omega))) | (with_reducible refine Blk.alloc ?_ _) | (with_reducible refine Blk.drew ?_) | (with_reducible refine Blk.drewN ?_ _) | (with_reducible refine Blk.belowB ?_ (Hid.out (by assumption)) ?szk; case szk => (first | omega | (simp only [World.size_alloc, sz_set, sz_drew, sz_drewN]; done) | (simp only [World.size_alloc, sz_set, sz_drew, sz_drewN]; omega)))))
    have h8 : Blk ((((w.alloc (.cells #[.int .i64 level, .int .i64 exponent, .slice ao np c] 28)).alloc (.cells #[.int .i64 0, .int .i64 0, .slice none 0 0] 28)).alloc (.cells #[.int .i64 level, .int .i64 exponent, .slice (some ⟨w.heap.size + 1 + 1 + 1, 0, none⟩) many many] 28)).alloc (.cells (zeroEs many) 54)).drew (w.heap.size + 1 + 1) 28 #[.int .i64 level, .int .i64 exponent, .slice (some ⟨(w.heap.size + 1 + 1 + 1), 0, none⟩) many many] := (by repeat (first | exact Blk.newAt (by (first | omega | (simp only [World.size_alloc, sz_set, sz_drew, sz_drewN]; done) | (simp only [World.size_alloc, sz_set, sz_drew, sz_drewN]; omega))) | (with_reducible refine Blk.alloc ?_ _) | (with_reducible refine Blk.drew ?_) | (with_reducible refine Blk.drewN ?_ _) | (with_reducible refine Blk.belowB ?_ (Hid.out (by assumption)) ?szk; case szk => (first | omega | (simp only [World.size_alloc, sz_set, sz_drew, sz_drewN]; done) | (simp only [World.size_alloc, sz_set, sz_drew, sz_drewN]; omega)))))
    have h6 : Blk ((((w.alloc (.cells #[.int .i64 level, .int .i64 exponent, .slice ao np c] 28)).alloc (.cells #[.int .i64 0, .int .i64 0, .slice none 0 0] 28)).alloc (.cells #[.int .i64 level, .int .i64 exponent, .slice (some ⟨w.heap.size + 1 + 1 + 1, 0, none⟩) many many] 28)).alloc (.cells (zeroEs many) 54)).drew (w.heap.size + 1) 28 #[.int .i64 0, .int .i64 0, .slice none 0 0] := (by repeat (first | exact Blk.newAt (by (first | omega | (simp only [World.size_alloc, sz_set, sz_drew, sz_drewN]; done) | (simp only [World.size_alloc, sz_set, sz_drew, sz_drewN]; omega))) | (with_reducible refine Blk.alloc ?_ _) | (with_reducible refine Blk.drew ?_) | (with_reducible refine Blk.drewN ?_ _) | (with_reducible refine Blk.belowB ?_ (Hid.out (by assumption)) ?szk; case szk => (first | omega | (simp only [World.size_alloc, sz_set, sz_drew, sz_drewN]; done) | (simp only [World.size_alloc, sz_set, sz_drew, sz_drewN]; omega)))))
    have hB : Below w.heap.size w ((((w.alloc (.cells #[.int .i64 level, .int .i64 exponent, .slice ao np c] 28)).alloc (.cells #[.int .i64 0, .int .i64 0, .slice none 0 0] 28)).alloc (.cells #[.int .i64 level, .int .i64 exponent, .slice (some ⟨w.heap.size + 1 + 1 + 1, 0, none⟩) many many] 28)).alloc (.cells (zeroEs many) 54)).drew := (by with_reducible (repeat first | exact bR _ _ | assumption | exact ho (by assumption) | refine bD ?_ | refine bN ?_ _ | refine bA ?_ ?_ _ | refine bS ?_ ?_ _) <;> (first | omega | (simp <;> omega)))
    have hsz : ((((w.alloc (.cells #[.int .i64 level, .int .i64 exponent, .slice ao np c] 28)).alloc (.cells #[.int .i64 0, .int .i64 0, .slice none 0 0] 28)).alloc (.cells #[.int .i64 level, .int .i64 exponent, .slice (some ⟨w.heap.size + 1 + 1 + 1, 0, none⟩) many many] 28)).alloc (.cells (zeroEs many) 54)).drew.heap.size = w.heap.size + 1 + 1 + 1 + 1 := by simp [World.size_alloc, sz_drew]

    obtain ⟨W, hW⟩ : ∃ W, ((((w.alloc (.cells #[.int .i64 level, .int .i64 exponent, .slice ao np c] 28)).alloc (.cells #[.int .i64 0, .int .i64 0, .slice none 0 0] 28)).alloc (.cells #[.int .i64 level, .int .i64 exponent, .slice (some ⟨w.heap.size + 1 + 1 + 1, 0, none⟩) many many] 28)).alloc (.cells (zeroEs many) 54)).drew = W := ⟨_, rfl⟩
    rw [hW] at hA h8 h6 hB hsz ⊢
    have HA : Hid (Parts W (w.heap.size + 1 + 1 + 1) w.heap.size many 0 f) := Lib.hid ⟨_, hA, zeroEs_size many, fun j hj => by omega⟩
    have H8 := Lib.hid h8
    have H6 := Lib.hid h6
    have HB := Lib.hid hB
    obtain ⟨e0, e1, e2⟩ := el_cells h8
    clear hW hA h8 h6 hB hmk
    try clear hS
    go_wp2
    go_loopg [22] many (fun fu v wr => ∃ k : Nat, v = .int .i64 k ∧ k ≤ many ∧ many - k ≤ fu ∧ Hid (Parts wr (w.heap.size + 1 + 1 + 1) w.heap.size many k f) ∧ Hid (Turn W wr [(w.heap.size + 1 + 1 + 1)]))
    case atStart => exact ⟨0, rfl, by omega, by omega, HA, Lib.hid (Turn.refl _ _)⟩
    case round =>
      obtain ⟨k, rfl, hk, hfu, HPa, HT⟩ := hrel
      have hsr := HT.out.size
      have n8 : (w.heap.size + 1 + 1) ≠ (w.heap.size + 1 + 1 + 1) := by omega
      have n6 : w.heap.size + 1 ≠ (w.heap.size + 1 + 1 + 1) := by omega
      have hb8 := H8.out.turn HT.out (by simp)
      have HBw : Hid (Below w.heap.size w wr) := Lib.hid (HB.out.trans (HT.out.belowN HB.out.size (fun x hx => by simp at hx; omega)))
      obtain ⟨d0, d1, d2⟩ := el_cells hb8
      by_cases hkl : k < many
      case neg =>
        obtain rfl : k = many := by omega
        have hb6 := H6.out.turn HT.out (by simp)
        obtain ⟨k0, k1, k2⟩ := el_cells hb6
        have f0 := hb6.free 0
        have f1 := hb6.free 1
        have f2 := hb6.free 2
        clear hb6 hb8
        go_wp2
        refine bodyPost_ret (v := .tuple #[.agg #[.int .i64 level, .int .i64 exponent, .slice (some ⟨(w.heap.size + 1 + 1 + 1), 0, none⟩) k k], .int .i64 0]) (by simp [results, Tryz.results36, go_sem, k0, k1, k2]) rfl ⟨⟨(w.heap.size + 1 + 1 + 1), rfl, by omega, ?_⟩, (by with_reducible (repeat first | exact bR _ _ | assumption | exact ho (by assumption) | refine bD ?_ | refine bN ?_ _ | refine bA ?_ ?_ _ | refine bS ?_ ?_ _) <;> (first | omega | (simp <;> omega)))⟩
        obtain ⟨cs, p1, p2, p3⟩ := HPa.out
        refine ⟨cs, ((p1.far (p := ⟨w.heap.size + 1, 0, none⟩) (by (try dsimp only); omega) _).far (p := ⟨w.heap.size + 1, 1, none⟩) (by (try dsimp only); omega) _).far (p := ⟨w.heap.size + 1, 2, none⟩) (by (try dsimp only); omega) _, p2, fun j hj => ?_⟩
        obtain ⟨ao', c', bj, q1, q2, q3, q4, q5, q6⟩ := p3 j hj
        exact ⟨ao', c', bj, q1, q2, q3, q4.turn (S := [w.heap.size + 1]) ((((Turn.refl wr _).setCell (p := ⟨w.heap.size + 1, 0, none⟩) (.inl (by simp)) _).setCell (p := ⟨w.heap.size + 1, 1, none⟩) (.inl (by simp)) _).setCell (p := ⟨w.heap.size + 1, 2, none⟩) (.inl (by simp)) _) (fun x hx => by simp at hx; omega), q5, q6⟩
      have hcall := HP.out k hkl wr HBw.out
      have HC := Lib.hid hcall
      have HST : Hid (∀ W2 (ao2 : Option Addr) (c2 : Nat), Below wr.heap.size wr W2 → OwR W2 wr.heap.size (.slice ao2 (f k).rows.length c2) (f k).rows → Parts (((W2.setCell ⟨(w.heap.size + 1 + 1 + 1), k * 3, none⟩ (.int .i64 (f k).level)).setCell ⟨(w.heap.size + 1 + 1 + 1), k * 3 + 1, none⟩ (.bool (f k).special)).setCell ⟨(w.heap.size + 1 + 1 + 1), k * 3 + 2, none⟩ (.slice ao2 (f k).rows.length c2)) (w.heap.size + 1 + 1 + 1) w.heap.size many (k + 1) f ∧ Turn W (((W2.setCell ⟨(w.heap.size + 1 + 1 + 1), k * 3, none⟩ (.int .i64 (f k).level)).setCell ⟨(w.heap.size + 1 + 1 + 1), k * 3 + 1, none⟩ (.bool (f k).special)).setCell ⟨(w.heap.size + 1 + 1 + 1), k * 3 + 2, none⟩ (.slice ao2 (f k).rows.length c2)) [(w.heap.size + 1 + 1 + 1)]) := Lib.hid (fun W2 ao2 c2 hb hO =>
        ⟨(HPa.out.below hb).step hkl hO (by omega) (by omega), (((HT.out.trans (Turn.of_below hb)).setCell (p := ⟨(w.heap.size + 1 + 1 + 1), k * 3, none⟩) (.inl (by simp)) _).setCell (p := ⟨(w.heap.size + 1 + 1 + 1), k * 3 + 1, none⟩) (.inl (by simp)) _).setCell (p := ⟨(w.heap.size + 1 + 1 + 1), k * 3 + 2, none⟩) (.inl (by simp)) _⟩)
      have HCE : Hid (∀ W2, Below wr.heap.size wr W2 → (∃ x, W2.cell? ⟨(w.heap.size + 1 + 1 + 1), k * 3, none⟩ = some x) ∧ (∃ x, W2.cell? ⟨(w.heap.size + 1 + 1 + 1), k * 3 + 1, none⟩ = some x) ∧ (∃ x, W2.cell? ⟨(w.heap.size + 1 + 1 + 1), k * 3 + 2, none⟩ = some x) ∧ (∀ i, W2.frozen? ⟨(w.heap.size + 1 + 1 + 1), i, none⟩ = false)) := Lib.hid (fun W2 hb => by
        obtain ⟨cs, p1, p2, p3⟩ := HPa.out.below hb
        have hh : ∀ i, i < many * 3 → ∃ x, W2.cell? ⟨(w.heap.size + 1 + 1 + 1), i, none⟩ = some x := fun i hi => ⟨cs[i]'(by omega), by rw [p1.cell i]; exact Array.getElem?_eq_getElem _⟩
        exact ⟨hh _ (by omega), hh _ (by omega), hh _ (by omega), fun i => p1.free i⟩)
      obtain ⟨E, hE⟩ : ∃ E, f k = E := ⟨_, rfl⟩
      rw [hE] at HC HST
      unfold PutEl El.val at HC
      clear hcall hE hb8
      go_wp2_with fail
      (with_reducible refine Calls.mono HC.out ?_)
      rintro e w5 ⟨⟨a5, c5, rfl, hO5⟩, hb5⟩
      obtain ⟨⟨x0, y0⟩, ⟨x1, y1⟩, ⟨x2, y2⟩, z0⟩ := HCE.out w5 hb5
      obtain ⟨g0, g1, g2⟩ := el_cells ((H8.out.turn HT.out (by simp)).below hb5)
      have hs5 := hb5.size
      have hga : (w.heap.size + 1 + 1 + 1) < w5.heap.size := by omega
      have hg8 : (w.heap.size + 1 + 1) < w5.heap.size := by omega
      have HW5 : Hid (Below wr.heap.size wr w5) := Lib.hid hb5
      have HO5 := Lib.hid hO5
      have i0 : (0 : Int) ≤ (k : Int) := Int.natCast_nonneg _
      have i1 : (k : Int) < (many : Int) := by omega
      clear hb5 hO5 d0 d1 d2 HC
      go_wp2
      go_roundg (many - (k + 1))
      case measure => omega
      case rel =>
        obtain ⟨s1, s2⟩ := HST.out w5 a5 c5 HW5.out HO5.out
        exact ⟨k + 1, by go_num, by omega, Nat.le_refl _, Lib.hid (s1.below ((Below.refl _ _).alloc (Nat.le_refl _) _)), Lib.hid (s2.alloc _)⟩
end Go.Proofs.YtcipjbckcnkfaaaGreat
