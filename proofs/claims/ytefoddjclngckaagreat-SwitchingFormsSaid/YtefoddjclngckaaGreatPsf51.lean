/- Whether some digits are as the document says: by data. -/
import Derived.Test.YtefoddjclngckaaGreatPsf49
import Derived.Test.YtefoddjclngckaaGreatPsf48
set_option linter.unusedSimpArgs false
set_option linter.unusedVariables false
set_option linter.unnecessarySimpa false
namespace Go.Proofs.YtefoddjclngckaaGreat
open Go.RowKit
set_option maxRecDepth 20000
set_option maxHeartbeats 4000000
def c4 : Nat → List D := fun i => [.val (.int .u32 (p4.chain.getD i 0))]
theorem c4_to : Cvt (u32sD false p4.chain) (.fz false 1 1 c4) := .of_eq rfl
theorem c4_fro : Cvt (.fz false 1 1 c4) (u32sD false p4.chain) := .of_eq rfl
/-- A written list of data, seen as frozen. -/
theorem CvV.lsl {L ns : List Nat} {H : Nat → Option Box} {k m len : Nat} {t : TypeId} {ds : List D} {f : Nat → List D} (h : H k = some (.lit t ds)) (hl : len * m ≤ ds.length) (hf : ∀ e, e < len → (f e).length = m ∧ ∀ c, c < m → CvV true L ns H (dl ds (e * m + c)) (dl (f e) c)) (hkL : memB k L = false) (hns : memB k ns = true) : CvV true L ns H (.sl k m len) (.fz true len m f) := fun H1 hH S E a w Z i v hF hL hv => by
  rw [← hH k (memB_spec hns)] at h
  cases hv with
  | @sl _ b _ _ _ cap hib h1 h2 =>
    rcases hF.box k _ h with ⟨b', c', e1, _, _, _, cs, hB, hs, hall⟩ | ⟨e1, _⟩
    · rw [hib] at e1; cases e1
      have hz := hF.lent hL h rfl hib (memB_no hkL) hB.lt
      have hlt : ∀ {e c : Nat}, e < len → c < m → e * m + c < ds.length := fun {e c} he hc => by
        have : (e + 1) * m ≤ len * m := Nat.mul_le_mul_right _ (by omega)
        rw [Nat.add_mul] at this; omega
      refine .fz _ _ _ len cap.c m f (fun e c => cs.getD (e * m + c) undef) h1 h2 (fun e he => (hf e he).1) (fun e c he hc => ⟨b, 0, rfl, hz, ?_, (hall _ (hlt he hc)).1⟩) (fun e c he hc => (hf e he).2 c hc H1 hH S E a w Z i _ hF hL (hall _ (hlt he hc)).2)
      rw [Nat.zero_add]; exact hB.cell _ (by rw [hs]; exact hlt he hc)
    · rw [hib] at e1; cases e1
  | sl0 => exact .fz _ _ none 0 0 m f (fun _ _ => undef) (Nat.le_refl _) (by omega) (fun e he => by omega) (fun e c he => by omega) (fun e c he => by omega)
/-- The example's residues. -/
def A18 (k j : Nat) : Nat := if k = 0 then (match j with | 0 => 1 | 1 => 2147481208 | 2 => 0 | 3 => 1073740605 | _ => 0) else 0
theorem A18_vg : Vg p4 1 A18 := fun r j => by
  have h : 2147481208 < modQ p4 1 r := by
    unfold modQ
    split
    · obtain rfl : r = 0 := by omega
      decide
    · decide
  unfold A18
  split
  · split <;> omega
  · omega
theorem p4_lv : Lv p4 4 1 := ⟨good_VP p4_good, good_special p4_good, p4_n, by omega, by decide⟩
noncomputable abbrev rowA : D := litA Tryz.t22.size 4 [.val (.int .u32 1), .val (.int .u32 ((p4.chain.getD (Int.toNat 0) 0 - 1 : Nat) : Int)), .val (.int .u32 0), .val (.int .u32 (((p4.chain.getD (Int.toNat 0) 0 + 1) / 2 : Nat) : Int))]
theorem swDigits_lit : Den Tryz.prog 11 [.agg (parL true p4), .agg [.val (.int .i64 1), .val (.bool false), .fz true 1 Tryz.t23.size (fun _ => [rowA])]] (.tup [.fz false 1 3 (fun i => elL false 1 true 2 4 (dgV p4 1 A18 i)), .val (.int .i64 0)]) :=
  (swDigits_ok p4 4 1 p4_fit p4_good p4_lv A18 A18_vg).arg (.cons (.of_eq rfl) (.cons (Cvt.agg (.cons (.of_eq rfl) (.cons (.of_eq rfl) (.cons (Cvt.fz (.inl rfl) (fun e he => ⟨rfl, fun c hc => by
    obtain rfl : e = 0 := by omega
    obtain rfl : c = 0 := by have : c < 1 := hc; omega
    exact Cvt.litA (fun e he => by
      match e, he with
      | 0, _ => rfl
      | 1, _ => rfl
      | 2, _ => rfl
      | 3, _ => rfl) (fun _ _ => rfl)⟩)) .nil)))) .nil))
theorem c4_par : Cvt (.agg (parL false p4)) (.agg (parL true p4)) := inferInstance
theorem awake18_den : Den Tryz.prog 10 [] (.val (.bool true)) := by
  refine den_intro (fn := Tryz.f10) rfl rfl rfl rfl rfl ?_
  have q0 : p4.chain.getD (Int.toNat 0) 0 = 2147481209 := rfl
  have q1 : p4.special = 2147483249 := rfl
  obtain ⟨B, hB, b1, b2, b3, b4⟩ : ∃ B, dgV p4 1 A18 = B ∧ B 0 0 3 = 1073740605 ∧ B 0 1 0 = 1 ∧ B 0 1 1 = 2147483248 ∧ B 0 1 3 = 1073742645 := ⟨_, rfl, by decide +kernel, by decide +kernel, by decide +kernel, by decide +kernel⟩
  obtain ⟨sp, hsp⟩ : ∃ s, p4.special = s := ⟨_, rfl⟩
  obtain ⟨qv, hqv⟩ : ∃ s, p4.chain.getD 0 0 = s := ⟨_, rfl⟩
  have q2 : sp = 2147483249 := by omega
  have q3 : qv = 2147481209 := by rw [← hqv]; exact q0
  have hcq : Cvt (u32sD false p4.chain) (.fz false 1 1 (fun _ => [.val (.int .u32 (qv : Nat))])) := Cvt.fz (.inl rfl) (fun e he => ⟨rfl, fun c hc => by
    obtain rfl : e = 0 := by have : e < 1 := he; omega
    obtain rfl : c = 0 := by have : c < 1 := hc; omega
    exact .of_eq (by rw [← hqv])⟩)
  have hcs : Cvt (.val (.int .u32 (p4.special : Nat))) (.val (.int .u32 (sp : Nat))) := .of_eq (by rw [hsp])
  have hsw := swDigits_lit
  rw [hB] at hsw
  refine go ?_
  refine r_call small13_den ?_
  refine gor ?_
  refine c_lit 1001 [.val (.int .i64 p4.n), .val (.int .u32 p4.prime), .val (.int .i64 p4.power), .fz false 1 1 c4, .val (.int .u32 p4.special), .val (.int .i64 p4.weight), .val (.int .u32 p4.err)] (.cons (.refl _) (.cons (.refl _) (.cons (.refl _) (.cons (.cvt c4_to) (.cons (.refl _) (.cons (.refl _) (.cons (.refl _) .nil))))))) ?_
  refine c_sreg ?_
  refine gor ?_
  refine c_lit 1001 (parL false p4) (.cons (.refl _) (.cons (.refl _) (.cons (.refl _) (.cons (.cvt c4_fro) (.cons (.refl _) (.cons (.refl _) (.cons (.refl _) .nil))))))) ?_
  refine go ?_
  refine r_call (hv := ?_) hsw ?_
  · refine go ?_
    refine c_no ?_
    refine awp_skip (p_thenN ?_)
    refine c_lit 1001 [.val (.int .i64 p4.n), .val (.int .u32 p4.prime), .val (.int .i64 p4.power), .fz false 1 1 (fun _ => [.val (.int .u32 (qv : Nat))]), .val (.int .u32 (sp : Nat)), .val (.int .i64 p4.weight), .val (.int .u32 p4.err)] (.cons (.refl _) (.cons (.refl _) (.cons (.refl _) (.cons (.cvt hcq) (.cons (.cvt hcs) (.cons (.refl _) (.cons (.refl _) .nil))))))) ?_
    refine go ?_
    refine fin_slot 0 (.val (.bool true)) ?_ ?_
    · have e : (decide (B (Int.toNat 0) (Int.toNat 0) (Int.toNat 3) = (p4.chain.getD (Int.toNat 0) 0 + 1) / 2) && decide (B (Int.toNat 0) (Int.toNat 1) (Int.toNat 0) = 1) && decide (B (Int.toNat 0) (Int.toNat 1) (Int.toNat 1) = sp - 1) && decide (B (Int.toNat 0) (Int.toNat 1) (Int.toNat 3) = sp - (p4.chain.getD (Int.toNat 0) 0 - 1) / 2)) = true := by
        rw [q0, q2, show Int.toNat 0 = 0 from rfl, show Int.toNat 1 = 1 from rfl, show Int.toNat 3 = 3 from rfl, b1, b2, b3, b4]
        rfl
      exact .eq (by rw [e])
    · refine fin ?_
      exact cv
  · refine .cons (.cv (CvV.cvt (CvV.id rfl) c4_par)) (.cons (.cv (CvV.agg (.cons (CvV.id rfl) (.cons (CvV.id rfl) (.cons (CvV.lsl (t := 23) (f := fun _ => [rowA]) rfl (Nat.le_refl _) (fun e he => ⟨rfl, fun c hc => ?_⟩) rfl rfl) .nil))))) .nil)
    obtain rfl : e = 0 := by omega
    obtain rfl : c = 0 := by have : c < 1 := hc; omega
    exact CvV.sl ⟨22, .inl rfl⟩ (Nat.le_refl _) rfl rfl
end Go.Proofs.YtefoddjclngckaaGreat
