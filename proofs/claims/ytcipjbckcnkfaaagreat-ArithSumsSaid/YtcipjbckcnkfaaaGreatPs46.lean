/- What is too large to be looked at.
Results of both sides, in one form. No walk. (Printed by genboth.py.) -/
import Derived.Test.YtcipjbckcnkfaaaGreatPs45
import Derived.Test.YtcipjbckcnkfaaaGreatPs41
import Derived.Test.YtcipjbckcnkfaaaGreatPs44
set_option linter.unusedSimpArgs false
set_option linter.unusedVariables false
namespace Go.Proofs.YtcipjbckcnkfaaaGreat
open Go.RowKit Go.Shelf
attribute [local go_sem ↓] Go.wp_at_zero Go.wp_at_succ

/-- An element that is looked at. -/
def SmallEl (E : El) : Prop := E.rows.length ≤ 40 ∧ ∀ j, j < E.rows.length → (E.row j).length ≤ 80
/-- A ciphertext that is looked at. -/
def SmallCi (C : Ci) : Prop := C.parts.length ≤ 5 ∧ ∀ i, i < C.parts.length → SmallEl (C.part i)

set_option maxHeartbeats 3200000 in
theorem large13_walk (E : El) (ao : Option Addr) (c : Nat) (w : World) (h0 : E.rows.length ≤ 9223372036854775807) (hr : ∀ i, i < E.rows.length → (E.row i).length ≤ 9223372036854775807) (h1 : RdR w ao E.rows) :
    Calls Tryz.prog 30 #[E.val ao c] w fun e w' => e = .returned (.bool (tr (¬ SmallEl E))) ∧ Below w.heap.size w w' := by
  have HR := Lib.hid h1
  have HF := Lib.hid hr
  obtain ⟨n, hn'⟩ : ∃ n, E.rows.length = n := ⟨_, rfl⟩
  have HL := Lib.hid hn'
  have HS : Hid (SmallEl E ↔ n ≤ 40 ∧ ∀ j, j < n → (E.row j).length ≤ 80) := Lib.hid (by unfold SmallEl; rw [hn'])
  unfold El.val
  rw [hn'] at h0 HF ⊢
  obtain ⟨R, hR⟩ : ∃ R, tr (¬ SmallEl E) = R := ⟨_, rfl⟩
  rw [hR]
  have HRR := Lib.hid hR
  clear h1 hr hn' hR
  by_cases h40 : n ≤ 40
  case neg =>
    have g : decide (40 < (n : Int)) = true := decide_eq_true (by omega)
    have hT : Hid (R = true) := Lib.hid (HRR.out.symm.trans <| tr_pos (fun h => h40 (HS.out.1 h).1))
    go_enter Tryz.func30, Tryz.ntmps30
    go_wp2
    go_ret
    exact ⟨congrArg (fun b => Ending.returned (Value.bool b)) hT.out.symm, (by with_reducible (repeat first | exact bR _ _ | assumption | exact ho (by assumption) | refine bD ?_ | refine bN ?_ _ | refine bA ?_ ?_ _ | refine bS ?_ ?_ _) <;> (first | omega | (simp <;> omega)))⟩
  have g : decide (40 < (n : Int)) = false := decide_eq_false (by omega)
  go_enter Tryz.func30, Tryz.ntmps30
  go_wp2
  go_loopg [3] n (fun fu v wr => ∃ k : Nat, v = .int .i64 k ∧ k ≤ n ∧ n - k ≤ fu ∧ Hid (∀ j, j < k → (E.row j).length ≤ 80) ∧ Hid (Below w.heap.size w wr) ∧ Hid (Blk wr w.heap.size 54 #[.int .i64 E.level, .bool E.special, .slice ao n c]))
  case atStart => exact ⟨0, rfl, by omega, by omega, Lib.hid (fun j hj => by omega), Lib.hid (by with_reducible (repeat first | exact bR _ _ | assumption | exact ho (by assumption) | refine bD ?_ | refine bN ?_ _ | refine bA ?_ ?_ _ | refine bS ?_ ?_ _) <;> (first | omega | (simp <;> omega))), Lib.hid (by repeat (first | exact Blk.newAt (by (first | omega | (simp only [World.size_alloc, sz_set, sz_drew, sz_drewN]; done) | (simp only [World.size_alloc, sz_set, sz_drew, sz_drewN]; omega))) | (with_reducible refine Blk.alloc ?_ _) | (with_reducible refine Blk.drew ?_) | (with_reducible refine Blk.drewN ?_ _) | (with_reducible refine Blk.belowB ?_ (Hid.out (by assumption)) ?szk; case szk => (first | omega | (simp only [World.size_alloc, sz_set, sz_drew, sz_drewN]; done) | (simp only [World.size_alloc, sz_set, sz_drew, sz_drewN]; omega)))))⟩
  case round =>
    obtain ⟨k, rfl, hk, hfu, HK, HB, HA⟩ := hrel
    obtain ⟨d0, d1, d2⟩ := el_cells HA.out
    by_cases hkl : k < n
    case neg =>
      obtain rfl : k = n := by omega
      have hT : Hid (R = false) := Lib.hid (HRR.out.symm.trans <| tr_neg (fun h => h (HS.out.2 ⟨h40, HK.out⟩)))
      go_wp2
      go_ret
      exact ⟨congrArg (fun b => Ending.returned (Value.bool b)) hT.out.symm, (by with_reducible (repeat first | exact bR _ _ | assumption | exact ho (by assumption) | refine bD ?_ | refine bN ?_ _ | refine bA ?_ ?_ _ | refine bS ?_ ?_ _) <;> (first | omega | (simp <;> omega)))⟩
    obtain ⟨b, o, rfl, hc⟩ := (HR.out.below HB.out) k (by rw [HL.out]; exact hkl)
    obtain ⟨r, rc, x0, _, _⟩ := hc k (by rw [HL.out]; exact hkl)
    rw [show E.rows.getD k [] = E.row k from rfl] at x0
    have hf := HF.out k hkl
    obtain ⟨m, hm⟩ : ∃ m, (E.row k).length = m := ⟨_, rfl⟩
    rw [hm] at x0 hf
    have i0 : (0 : Int) ≤ (k : Int) := Int.natCast_nonneg _
    have i1 : (k : Int) < (n : Int) := by omega
    have HM := Lib.hid hm
    clear hc hm
    by_cases h80 : m ≤ 80
    case neg =>
      have g2 : decide (80 < (m : Int)) = true := decide_eq_true (by omega)
      have hT : Hid (R = true) := Lib.hid (HRR.out.symm.trans <| tr_pos (fun h => h80 (by rw [← HM.out]; exact (HS.out.1 h).2 k hkl)))
      go_wp2
      go_ret
      exact ⟨congrArg (fun b => Ending.returned (Value.bool b)) hT.out.symm, (by with_reducible (repeat first | exact bR _ _ | assumption | exact ho (by assumption) | refine bD ?_ | refine bN ?_ _ | refine bA ?_ ?_ _ | refine bS ?_ ?_ _) <;> (first | omega | (simp <;> omega)))⟩
    have g2 : decide (80 < (m : Int)) = false := decide_eq_false (by omega)
    go_wp2
    go_roundg (n - (k + 1))
    case measure => omega
    case rel =>
      refine ⟨k + 1, by go_num, by omega, Nat.le_refl _, Lib.hid fun j hj => ?_, HB, HA⟩
      rcases Nat.lt_or_eq_of_le (Nat.le_of_lt_succ hj) with h | h
      · exact HK.out j h
      · subst h; rw [HM.out]; exact h80

set_option maxHeartbeats 3200000 in
theorem large14_walk (C : Ci) (ao : Option Addr) (c : Nat) (w : World) (hA : CiIn w C ao c) :
    Calls Tryz.prog 7 #[C.val ao c] w fun e w' => e = .returned (.bool (tr (¬ SmallCi C))) ∧ Below w.heap.size w w' := by
  have HR := Lib.hid hA.rd
  have h0 := hA.len
  have HC := Lib.hid (fun (i : Nat) (hi : i < C.parts.length) (x : Option Addr) (k : Nat) (w' : World) (h : RdR w' x (C.part i).rows) => large13_walk (C.part i) x k w' (hA.fit i hi).len (fun j hj => ((hA.fit i hi).rows j hj).1) h)
  obtain ⟨n, hn'⟩ : ∃ n, C.parts.length = n := ⟨_, rfl⟩
  have HL := Lib.hid hn'
  have HS : Hid (SmallCi C ↔ n ≤ 5 ∧ ∀ j, j < n → SmallEl (C.part j)) := Lib.hid (by unfold SmallCi; rw [hn'])
  unfold Ci.val El.val at *
  rw [hn'] at h0 HC ⊢
  obtain ⟨R, hR⟩ : ∃ R, tr (¬ SmallCi C) = R := ⟨_, rfl⟩
  rw [hR]
  have HRR := Lib.hid hR
  clear hA hn' hR
  by_cases h5 : n ≤ 5
  case neg =>
    have g : decide (5 < (n : Int)) = true := decide_eq_true (by omega)
    have hT : Hid (R = true) := Lib.hid (HRR.out.symm.trans <| tr_pos (fun h => h5 (HS.out.1 h).1))
    go_enter Tryz.func7, Tryz.ntmps7
    go_wp2
    go_ret
    exact ⟨congrArg (fun b => Ending.returned (Value.bool b)) hT.out.symm, (by with_reducible (repeat first | exact bR _ _ | assumption | exact ho (by assumption) | refine bD ?_ | refine bN ?_ _ | refine bA ?_ ?_ _ | refine bS ?_ ?_ _) <;> (first | omega | (simp <;> omega)))⟩
  have g : decide (5 < (n : Int)) = false := decide_eq_false (by omega)
  go_enter Tryz.func7, Tryz.ntmps7
  go_wp2
  go_loopg [3] n (fun fu v wr => ∃ k : Nat, v = .int .i64 k ∧ k ≤ n ∧ n - k ≤ fu ∧ Hid (∀ j, j < k → SmallEl (C.part j)) ∧ Hid (Below w.heap.size w wr) ∧ Hid (Blk wr w.heap.size 28 #[.int .i64 C.level, .int .i64 C.exponent, .slice ao n c]))
  case atStart => exact ⟨0, rfl, by omega, by omega, Lib.hid (fun j hj => by omega), Lib.hid (by with_reducible (repeat first | exact bR _ _ | assumption | exact ho (by assumption) | refine bD ?_ | refine bN ?_ _ | refine bA ?_ ?_ _ | refine bS ?_ ?_ _) <;> (first | omega | (simp <;> omega))), Lib.hid (by repeat (first | exact Blk.newAt (by (first | omega | (simp only [World.size_alloc, sz_set, sz_drew, sz_drewN]; done) | (simp only [World.size_alloc, sz_set, sz_drew, sz_drewN]; omega))) | (with_reducible refine Blk.alloc ?_ _) | (with_reducible refine Blk.drew ?_) | (with_reducible refine Blk.drewN ?_ _) | (with_reducible refine Blk.belowB ?_ (Hid.out (by assumption)) ?szk; case szk => (first | omega | (simp only [World.size_alloc, sz_set, sz_drew, sz_drewN]; done) | (simp only [World.size_alloc, sz_set, sz_drew, sz_drewN]; omega)))))⟩
  case round =>
    obtain ⟨k, rfl, hk, hfu, HK, HB, HA⟩ := hrel
    obtain ⟨d0, d1, d2⟩ := el_cells HA.out
    by_cases hkl : k < n
    case neg =>
      obtain rfl : k = n := by omega
      have hT : Hid (R = false) := Lib.hid (HRR.out.symm.trans <| tr_neg (fun h => h (HS.out.2 ⟨h5, HK.out⟩)))
      go_wp2
      go_ret
      exact ⟨congrArg (fun b => Ending.returned (Value.bool b)) hT.out.symm, (by with_reducible (repeat first | exact bR _ _ | assumption | exact ho (by assumption) | refine bD ?_ | refine bN ?_ _ | refine bA ?_ ?_ _ | refine bS ?_ ?_ _) <;> (first | omega | (simp <;> omega)))⟩
    obtain ⟨b, o, rfl, hc⟩ := (HR.out.below HB.out) k (by rw [HL.out]; exact hkl)
    obtain ⟨r, rc, x0, x1, x2, x3, _⟩ := hc k (by rw [HL.out]; exact hkl)
    rw [show C.parts.getD k ⟨0, false, []⟩ = C.part k from rfl] at x0 x1 x2 x3
    have hC := HC.out k hkl r rc wr x3
    obtain ⟨E, hE⟩ : ∃ E, C.part k = E := ⟨_, rfl⟩
    rw [hE] at x0 x1 x2 hC
    have HE := Lib.hid hE
    have HCC := Lib.hid hC
    have i0 : (0 : Int) ≤ (k : Int) := Int.natCast_nonneg _
    have i1 : (k : Int) < (n : Int) := by omega
    clear hc hE x3 hC
    by_cases hs : SmallEl E
    case neg =>
      rw [tr_pos hs] at HCC
      have hT : Hid (R = true) := Lib.hid (HRR.out.symm.trans <| tr_pos (fun h => hs (by rw [← HE.out]; exact (HS.out.1 h).2 k hkl)))
      go_wp2_with fail
      (with_reducible refine Calls.mono HCC.out ?_)
      rintro e w2 ⟨rfl, hb⟩
      have HB2 : Hid (Below w.heap.size w w2) := Lib.hid (below_step' HB.out hb)
      clear hb
      go_wp2
      go_ret
      exact ⟨congrArg (fun b => Ending.returned (Value.bool b)) hT.out.symm, (by with_reducible (repeat first | exact bR _ _ | assumption | exact ho (by assumption) | refine bD ?_ | refine bN ?_ _ | refine bA ?_ ?_ _ | refine bS ?_ ?_ _) <;> (first | omega | (simp <;> omega)))⟩
    rw [tr_neg (fun h => h hs)] at HCC
    have HSE := Lib.hid hs
    clear hs
    go_wp2_with fail
    (with_reducible refine Calls.mono HCC.out ?_)
    rintro e w2 ⟨rfl, hb⟩
    have HB2 : Hid (Below w.heap.size w w2) := Lib.hid (below_step' HB.out hb)
    have HA2 := Lib.hid (HA.out.below hb)
    clear hb
    go_wp2
    go_roundg (n - (k + 1))
    case measure => omega
    case rel =>
      refine ⟨k + 1, by go_num, by omega, Nat.le_refl _, Lib.hid fun j hj => ?_, HB2, HA2⟩
      rcases Nat.lt_or_eq_of_le (Nat.le_of_lt_succ hj) with h | h
      · exact HK.out j h
      · subst h; rw [HE.out]; exact HSE.out
end Go.Proofs.YtcipjbckcnkfaaaGreat

namespace Go.Proofs.YtcipjbckcnkfaaaGreat
open Go.RowKit Go.Shelf

/-- A ciphertext and an error that a call returns. -/
def CiRes (base : Nat) (C : Ci) (er : Int) (e : Ending) (w' : World) : Prop := ∃ ao c, e = .returned (.tuple #[.agg #[.int .i64 C.level, .int .i64 C.exponent, .slice ao C.parts.length c], .int .i64 er]) ∧ RdEN w' base ao C.parts ∧ C.parts.length ≤ c ∧ c ≤ 9223372036854775807
/-- No list in it is too long. -/
def CiBig (C : Ci) : Prop := C.parts.length ≤ 9223372036854775807 ∧ ∀ i, i < C.parts.length → (C.part i).rows.length ≤ 9223372036854775807 ∧ ∀ j, j < (C.part i).rows.length → ((C.part i).row j).length ≤ 9223372036854775807
theorem CiIn.big {w : World} {C : Ci} {ao : Option Addr} {c : Nat} (h : CiIn w C ao c) : CiBig C := ⟨h.len, fun i hi => ⟨(h.fit i hi).len, fun j hj => ((h.fit i hi).rows j hj).1⟩⟩
theorem CiBig.no : CiBig noCi := ⟨by decide, fun i hi => by simp [noCi] at hi⟩
theorem ElOk.small {p : Par} {E : El} (hg : Good p) (h : ElOk p E) : E.rows.length ≤ 25 ∧ ∀ j, j < E.rows.length → (E.row j).length ≤ 32 := by
  have hq := qs_len h.1
  have hl := hg.len
  have hn := hg.n
  have h1 := h.1.2.1
  refine ⟨?_, fun j hj => by have := (h.2.2 j hj).1; omega⟩
  rw [h.2.1]
  cases hs : E.special <;> rw [hs] at hq <;> simp at hq <;> omega
theorem CiBig.of {p : Par} (hg : Good p) {L X : Int} {n : Nat} {f : Nat → El} (hn : n ≤ 3) (hf : ∀ i, i < n → ElOk p (f i)) : CiBig ⟨L, X, (List.range n).map f⟩ := by
  refine ⟨by simp; omega, fun i hi => ?_⟩
  have hi' : i < n := by simpa using hi
  have e : Ci.part ⟨L, X, (List.range n).map f⟩ i = f i := by unfold Ci.part; simp [List.getD_eq_getElem?_getD, hi']
  rw [e]
  have := (hf i hi').small hg
  exact ⟨by omega, fun j hj => by have := this.2 j hj; omega⟩
theorem CiIn.copy {w w' : World} {C : Ci} {aa ao : Option Addr} {ca c : Nat} (h : CiIn w C aa ca) (hr : RdE w' ao C.parts) (h1 : C.parts.length ≤ c) (h2 : c ≤ 9223372036854775807) : CiIn w' C ao c := { h with rd := hr, room := h1, room2 := h2 }
/-- A ciphertext of the call's own, as a result. -/
theorem PutCi.res {base : Nat} {L X : Int} {many : Nat} {f : Nat → El} {e : Ending} {w : World} (h : PutCi base L X many f e w) (hm : many ≤ 9223372036854775807) : CiRes base ⟨L, X, (List.range many).map f⟩ 0 e w := by
  obtain ⟨g, rfl, hg, cs, p1, p2, p3⟩ := h
  refine ⟨some ⟨g, 0, none⟩, many, by simp, fun W hK k hk => ⟨g, 0, rfl, fun j hj => ?_⟩, by simp, hm⟩
  have hj' : j < many := by simpa using hj
  obtain ⟨ao', c', bj, q1, q2, q3, q4, q5, q6⟩ := p3 j hj'
  have e : ((List.range many).map f).getD j ⟨0, false, []⟩ = f j := by simp [List.getD_eq_getElem?_getD, hj']
  have hW : Blk W g 54 cs := hK.2 _ _ _ hg (by decide) p1
  have hO := q4.kp ((hK.less fun _ => elT_row).mono q5)
  obtain ⟨a2, c2, e2, hr, h4, h5⟩ := hO.shape
  cases e2
  rw [e, Nat.zero_add]
  exact ⟨ao', c', (hW.cell _).trans q1, (hW.cell _).trans q2, (hW.cell _).trans q3, hr, h4, h5⟩
theorem GiveCi.res {base : Nat} {C : Ci} {er : Int} {e : Ending} {w : World} (h : ∃ v, e = .returned (.tuple #[v, .int .i64 er]) ∧ GiveCi base C v w) : CiRes base C er e w := by
  obtain ⟨v, rfl, ao, c, rfl, h1, h2, h3⟩ := h
  exact ⟨ao, c, rfl, h1, h2, h3⟩
theorem noRes {base : Nat} {e : Ending} {w : World} (h : e = .returned (.tuple #[.agg #[.int .i64 0, .int .i64 0, .slice none 0 0], .int .i64 2])) : CiRes base noCi 2 e w := ⟨none, 0, h, RdEN.nil _ _ _, by simp [noCi], by omega⟩
end Go.Proofs.YtcipjbckcnkfaaaGreat
