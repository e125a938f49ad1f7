/- Products: the same of both sides. No walk. (Printed by genboth.py.) -/
import Derived.Test.YtcipjbckcnkfaaaGreatPa46
import Derived.Test.YtcipjbckcnkfaaaGreatPa52
set_option linter.unusedSimpArgs false
set_option linter.unusedVariables false
namespace Go.Proofs.YtcipjbckcnkfaaaGreat
open Go.RowKit Go.Shelf
theorem tensF_ok {p : Par} {A B : Ci} (hok : TensOk p A B) : ∀ i, i < 3 → ElOk p (tensF p A B i) := fun i hi => by
  obtain ⟨hM, h1, h2⟩ := hok
  have hg := hM.1.1.1
  unfold tensF
  split
  · have e1 : (A.part 1).level = (A.part 0).level := by rw [(hM.1.2.2 1 (by omega)).2.1, (hM.1.2.2 0 (by omega)).2.1]
    have e2 : (A.part 1).special = (A.part 0).special := by rw [(hM.1.2.2 1 (by omega)).2.2, (hM.1.2.2 0 (by omega)).2.2]
    exact sumEl_ok hg ⟨mulEl_ok hg (hM.part (by omega) (by omega)), mulEl_ok hg (hM.part (by omega) (by omega)), e1, e2⟩
  · exact mulEl_ok hg (hM.part (by omega) (by omega))
theorem tens_both (p : Par) (ca : Option Addr) (cc : Nat) (A B : Ci) (aa ab : Option Addr) (cA cB : Nat) (w : World) (hin : ParIn w p ca cc) (hA : CiIn w A aa cA) (hB : CiIn w B ab cB) : ∃ (C : Ci) (er : Int), CiBig C ∧
    (∀ (w' : World) (ax ay : Option Addr) (cx cy : Nat), Below w.heap.size w w' → RdE w' ax A.parts → A.parts.length ≤ cx → cx ≤ 9223372036854775807 → RdE w' ay B.parts → B.parts.length ≤ cy → cy ≤ 9223372036854775807 →
      Calls Tryz.prog 10 #[.agg (p.cells ca cc), A.val ax cx, B.val ay cy] w' fun e w2 => CiRes w'.heap.size C er e w2 ∧ Below w'.heap.size w' w2) ∧
    (∀ (w' : World), Below w.heap.size w w' → Calls Tryz.prog 11 #[.agg (p.cells ca cc), A.val aa cA, B.val ab cB] w' fun e w2 => CiRes w'.heap.size C er e w2 ∧ Below w'.heap.size w' w2) := by
  by_cases hok : TensOk p A B
  · refine ⟨⟨A.level, A.exponent, (List.range 3).map (tensF p A B)⟩, 0, CiBig.of hok.1.1.1.1 (by omega) (tensF_ok hok), fun w' ax ay cx cy hb h1 h2 h3 h4 h5 h6 => ?_, fun w' hb => ?_⟩
    · exact (arTensor_yes p ca cc A B ax ay cx cy w' (hin.below hb) (hA.copy h1 h2 h3) (hB.copy h4 h5 h6) hok).mono (fun e w2 h => ⟨PutCi.res h.1 (by omega), h.2⟩)
    · exact (r16Tensor_yes p ca cc A B aa ab cA cB w' (hin.below hb) (hA.below hb) (hB.below hb) hok).mono (fun e w2 h => ⟨GiveCi.res h.1, h.2⟩)
  · refine ⟨noCi, 2, CiBig.no, fun w' ax ay cx cy hb h1 h2 h3 h4 h5 h6 => ?_, fun w' hb => ?_⟩
    · exact (arTensor_no p ca cc A B ax ay cx cy w' (hin.below hb) (hA.copy h1 h2 h3) (hB.copy h4 h5 h6) hok).mono (fun e w2 h => ⟨noRes h.1, h.2⟩)
    · exact (r16Tensor_no p ca cc A B aa ab cA cB w' (hin.below hb) (hA.below hb) (hB.below hb) hok).mono (fun e w2 h => ⟨GiveCi.res h.1, h.2⟩)
end Go.Proofs.YtcipjbckcnkfaaaGreat
