/- Elements and ciphertexts that a call returns. No walk.
make of elements. No walk. -/
import Derived.Test.YtcipjbckcnkfaaaGreatPs37
import Derived.Test.YtcipjbckcnkfaaaGreatPs24
set_option linter.unusedSimpArgs false
set_option linter.unusedVariables false
namespace Go.Proofs.YtcipjbckcnkfaaaGreat
open Go.RowKit

/-- The types of elements. -/
def elT (t : TypeId) : Bool := decide (t = 54) || rowT t
theorem elT_row {t : TypeId} (h : rowT t = true) : elT t = true := by unfold elT; rw [h, Bool.or_true]
/-- Elements that lie beyond base: what turns below, or blocks of other types, leaves them. -/
def RdEN (w : World) (base : Nat) (ao : Option Addr) (l : List El) : Prop := ∀ W : World, Kp elT base w W → RdE W ao l
theorem RdEN.rd {w : World} {base : Nat} {ao : Option Addr} {l : List El} (h : RdEN w base ao l) : RdE w ao l := h w (Kp.refl _ _ _)
theorem RdEN.kp {w w2 : World} {base : Nat} {ao : Option Addr} {l : List El} (h : RdEN w base ao l) (hK : Kp elT base w w2) : RdEN w2 base ao l := fun W hT => h W (hK.trans hT)
theorem RdEN.below {w w2 : World} {base : Nat} {ao : Option Addr} {l : List El} (h : RdEN w base ao l) (hb : Below w.heap.size w w2) : RdEN w2 base ao l := h.kp ((Kp.refl _ _ _).call hb)
theorem RdEN.turn {w w2 : World} {base : Nat} {ao : Option Addr} {l : List El} {S : List Nat} (h : RdEN w base ao l) (hT : Turn w w2 S) (hS : ∀ x, x ∈ S → x < base) : RdEN w2 base ao l := h.kp (Kp.of_turn hT hS)
theorem RdEN.mono {w : World} {base base' : Nat} {ao : Option Addr} {l : List El} (h : RdEN w base ao l) (hb : base' ≤ base) : RdEN w base' ao l := fun W hK => h W (hK.mono hb)
theorem RdEN.nil (w : World) (base : Nat) (ao : Option Addr) : RdEN w base ao [] := fun W _ => RdE.nil W ao
/-- A result that is a ciphertext. -/
def GiveCi (base : Nat) (C : Ci) (v : Value) (w' : World) : Prop := ∃ ao c, v = C.val ao c ∧ RdEN w' base ao C.parts ∧ C.parts.length ≤ c ∧ c ≤ 9223372036854775807
/-- No ciphertext. -/
def noCi : Ci := ⟨0, 0, []⟩
theorem noCi_give (base : Nat) (w : World) : GiveCi base noCi (.agg #[.int .i64 0, .int .i64 0, .slice none 0 0]) w := ⟨none, 0, rfl, RdEN.nil _ _ _, by simp [noCi], by omega⟩
/-- The three cells of an element. -/
abbrev elCells (E : El) (ao : Option Addr) (c : Nat) : List Value := [.int .i64 E.level, .bool E.special, .slice ao E.rows.length c]
/-- Two elements in a new block. -/
theorem rdEN_two {w : World} {g : Nat} {A B : El} {aa ab : Option Addr} {cA cB base : Nat} (h : Blk w g 54 #[.int .i64 A.level, .bool A.special, .slice aa A.rows.length cA, .int .i64 B.level, .bool B.special, .slice ab B.rows.length cB]) (hg : base ≤ g)
    (ha : RdRN w base aa A.rows) (hb : RdRN w base ab B.rows) (ha1 : A.rows.length ≤ cA) (ha2 : cA ≤ 9223372036854775807) (hb1 : B.rows.length ≤ cB) (hb2 : cB ≤ 9223372036854775807) : RdEN w base (some ⟨g, 0, none⟩) [A, B] := fun W hK k hk => ⟨g, 0, rfl, fun j hj => by
  have h' : Blk W g 54 _ := hK.2 g _ _ hg (by decide) h
  match j, hj with
  | 0, _ => exact ⟨aa, cA, h'.cell 0, h'.cell 1, h'.cell 2, (ha.kp (hK.less fun _ => elT_row)).rd, ha1, ha2⟩
  | 1, _ => exact ⟨ab, cB, h'.cell 3, h'.cell 4, h'.cell 5, (hb.kp (hK.less fun _ => elT_row)).rd, hb1, hb2⟩⟩
/-- Three elements in a new block. -/
theorem rdEN_three {w : World} {g : Nat} {A B C : El} {aa ab ac : Option Addr} {cA cB cC base : Nat} {rest : List Value} {cs : Array Value} (h : Blk w g 54 cs) (hcs : cs.toList = [.int .i64 A.level, .bool A.special, .slice aa A.rows.length cA, .int .i64 B.level, .bool B.special, .slice ab B.rows.length cB, .int .i64 C.level, .bool C.special, .slice ac C.rows.length cC] ++ rest) (hg : base ≤ g)
    (ha : RdRN w base aa A.rows) (hb : RdRN w base ab B.rows) (hc : RdRN w base ac C.rows) (ha1 : A.rows.length ≤ cA) (ha2 : cA ≤ 9223372036854775807) (hb1 : B.rows.length ≤ cB) (hb2 : cB ≤ 9223372036854775807) (hc1 : C.rows.length ≤ cC) (hc2 : cC ≤ 9223372036854775807) : RdEN w base (some ⟨g, 0, none⟩) [A, B, C] := fun W hK k hk => ⟨g, 0, rfl, fun j hj => by
  have h' : Blk W g 54 _ := hK.2 g _ _ hg (by decide) h
  have c : ∀ i, W.cell? ⟨g, i, none⟩ = cs.toList[i]? := fun i => by rw [h'.cell i, Array.getElem?_toList]
  rw [hcs] at c
  match j, hj with
  | 0, _ => exact ⟨aa, cA, c 0, c 1, c 2, (ha.kp (hK.less fun _ => elT_row)).rd, ha1, ha2⟩
  | 1, _ => exact ⟨ab, cB, c 3, c 4, c 5, (hb.kp (hK.less fun _ => elT_row)).rd, hb1, hb2⟩
  | 2, _ => exact ⟨ac, cC, c 6, c 7, c 8, (hc.kp (hK.less fun _ => elT_row)).rd, hc1, hc2⟩⟩
theorem OwR.give {w : World} {base : Nat} {E : El} {ao : Option Addr} {c : Nat} (h : OwR w base (.slice ao E.rows.length c) E.rows) : RdRN w base ao E.rows ∧ E.rows.length ≤ c ∧ c ≤ 9223372036854775807 := by
  obtain ⟨ao', c', e, h1, h2, h3⟩ := h.shape
  cases e
  exact ⟨h.rdn, h2, h3⟩
theorem PlaceOk.of {p : Par} {level : Int} (h1 : 1 ≤ level) (h2 : level ≤ (p.chain.length : Int)) : PlaceOk p level false := ⟨h1, h2, fun h => by cases h⟩
/-- What Trivial makes. -/
def trivCi (p : Par) (l : List Int) (level exponent : Int) : Ci := ⟨level, exponent, [ofEl p level false l, ofEl p level false (List.replicate p.n.toNat 0)]⟩
/-- Trivial makes something. -/
def TrivOk (p : Par) (l : List Int) (level exponent : Int) : Prop := StateOk p level exponent ∧ PolyOk p exponent.toNat l
open Classical in
noncomputable def trivOut (p : Par) (l : List Int) (level exponent : Int) : Ci := if TrivOk p l level exponent then trivCi p l level exponent else noCi
theorem trivOut_pos {p : Par} {l : List Int} {level exponent : Int} (h : TrivOk p l level exponent) : trivOut p l level exponent = trivCi p l level exponent := by unfold trivOut; exact if_pos h
theorem trivOut_neg {p : Par} {l : List Int} {level exponent : Int} (h : ¬ TrivOk p l level exponent) : trivOut p l level exponent = noCi := by unfold trivOut; exact if_neg h
end Go.Proofs.YtcipjbckcnkfaaaGreat

namespace Go.Proofs.YtcipjbckcnkfaaaGreat
open Go.RowKit
theorem info_elem : (Tryz.prog.info? 54).map (fun i => (i.zero, i.size, i.bytes)) = some (some (.agg #[.int .i64 0, .bool false, .slice none 0 0]), 3, 40) := by kernel_rfl
def zeroEs (n : Nat) : Array Value := madeCells (Value.agg #[.int .i64 0, .bool false, .slice none 0 0]).cells (n * 3)
theorem makeEs (n : Nat) (h : n ≤ 1000) (W : World) : (Instr.makeSlice 26 (.int .i64 n) (.int .i64 n)).run Tryz.prog W = .ok (.slice (some ⟨W.heap.size, 0, none⟩) n n) (W.alloc (.cells (zeroEs n) 54)) := by
  obtain ⟨i0, hi, hz0, hz1, hz2⟩ := info_parts info_elem
  have hr := run_makeSlice (P := Tryz.prog) W 26 54 i0 (.agg #[.int .i64 0, .bool false, .slice none 0 0]) Tryz.underlying26 hi hz0 .i64 .i64 n n (by omega) (Int.le_refl _) (by rw [hz1]; omega) (by rw [hz2]; omega) (by omega)
  rw [hz1, Int.toNat_natCast] at hr
  exact hr
theorem zeroEs_size (n : Nat) : (zeroEs n).size = n * 3 := by
  unfold zeroEs
  simp [madeCells]
end Go.Proofs.YtcipjbckcnkfaaaGreat
