/- One step of the program's search. -/
import Derived.Test.YtoeoibcjenknmaaPb18
import Derived.Deep.RegionHeld3
import Derived.Deep.DrawnRows
import Derived.Deep.DeepCutAuto
namespace Go.Proofs.Ytoeoibcjenknmaa
open Go.RowKit Go.Shelf
attribute [local go_sem ↓] Go.wp_at_zero Go.wp_at_succ

theorem mul_bounds' {x k z : Int} (h : x * k = z) (hx : 0 ≤ x) (hx2 : x ≤ 64) (hk : 0 ≤ k) (hk2 : k ≤ 64) : 0 ≤ z ∧ z ≤ 4096 := by
  rw [← h]
  exact ⟨Int.mul_nonneg hx hk, Int.mul_le_mul hx2 hk2 hk (by omega)⟩
set_option maxHeartbeats 6400000 in
set_option maxRecDepth 100000 in
theorem gstep_walk (ba bp bm lo mb q d a i : Nat) (n x k : Int) (px : List Int) (S : List (Int × List Int)) (X : List Nat) (w : World) (hM : PMem w lo mb q d S X) (hd : d ≤ S.length) (hn64 : S.length ≤ 1000) (hlo : lo ≤ w.heap.size)
    (ha : S[a]? = some (x, px)) (hpl : px.length ≤ 1000) (h4 : 4 ≤ n) (h32 : n ≤ 32) (hx0 : 0 ≤ x) (hx1 : x < 2 * n) (hk0 : 1 ≤ k) (hk1 : k < 2 * n) (hAX : ba ∈ X) (hMX : bm ∈ X)
    (cA : w.cell? ⟨ba, 0, none⟩ = some (.int .i64 x)) (cP : w.cell? ⟨bp, 0, none⟩ = some (.int .i64 n)) (cM : w.cell? ⟨bm, 0, none⟩ = some (.map (some mb))) :
    Calls Try.prog 18 #[.int .i64 i, .int .i64 k, .pointer (some ⟨ba, 0, none⟩), .pointer (some ⟨bp, 0, none⟩), .pointer (some ⟨bm, 0, none⟩), .pointer (some ⟨q, 0, none⟩)] w fun e w' => e = .returned (.tuple #[]) ∧ StepPost w w' lo mb q d (bstep (2 * n) x px S i k) X := by
  obtain ⟨z, hz⟩ : ∃ z, x * k = z := ⟨_, rfl⟩
  have hzb := mul_bounds' hz hx0 (by omega) (by omega) (by omega)
  obtain ⟨nx, hnx⟩ : ∃ nx, z % (2 * n) = nx := ⟨_, rfl⟩
  have hnx0 : 0 ≤ nx ∧ nx < 64 := by rw [← hnx]; exact ⟨Int.emod_nonneg _ (by omega), Int.lt_of_lt_of_le (Int.emod_lt_of_pos _ (by omega)) (by omega)⟩
  have HNX : Hid (x * k % (2 * n) = nx) := Lib.hid (by rw [hz, hnx])
  by_cases hcon : nx ∈ S.map Prod.fst
  · have HST : Hid (bstep (2 * n) x px S i k = S) := Lib.hid (by unfold bstep; rw [HNX.out, if_pos (by simpa using hcon)])
    obtain ⟨p, hp, hp1⟩ := List.mem_map.1 hcon
    obtain ⟨j, hj, hj'⟩ := List.mem_iff_getElem.1 hp
    obtain ⟨p1, p2⟩ := p
    simp only at hp1
    subst hp1
    obtain ⟨g, off, c, bs, hr1, _, _⟩ := hM.known (a := j) (x := p1) (px := p2) (by rw [List.getElem?_eq_getElem hj, hj']) (by omega) (by omega)
    have HM := Lib.hid hM
    clear hM hcon hp hj' ha
    go_enter Try.func18, Try.ntmps18
    go_wp2
    refine bodyPost_end (results_none rfl _ _ _) rfl ?_
    rw [HST.out]
    exact ⟨rfl, HM.out, [], Turn.refl _ _, fun _ _ => by simp, fun _ hy => by simp at hy⟩
  · have HST : Hid (bstep (2 * n) x px S i k = S ++ [(nx, px ++ [(i : Int)])]) := Lib.hid (by unfold bstep; rw [HNX.out, if_neg (by simpa using hcon)])
    obtain ⟨v0, hr0⟩ := hM.new hcon (by omega) (by omega)
    obtain ⟨g, off, c, b', c', u1, u2, qv, bs, hl1, hl2, hc1, hc2, hr, hu, hlk, hlk2, T1, T2, hQ, hO, hqb, hfin⟩ := hM.grow hd hn64 hlo ha hpl (by omega) (by omega) hcon (by omega) (by omega) i
    have hXa := hM.apart (y := ba) hAX
    have hXm := hM.apart (y := bm) hMX
    have cM2 : u2.cell? ⟨bm, 0, none⟩ = some (.map (some mb)) := T2.cell cM (by simpa using hXm)
    have cA2 : u2.cell? ⟨ba, 0, none⟩ = some (.int .i64 x) := T2.cell cA (by simpa using hXa)
    have hput := qput_walk q lo qv ((S.drop d).map Prod.fst) bs nx u2 hQ hO (by have := T2.size; omega) (by rw [List.length_map, List.length_drop]; omega) hqb
    have HPUT := Lib.hid hput
    have HFIN := Lib.hid hfin
    obtain ⟨pl, hpl'⟩ : ∃ pl, px.length = pl := ⟨_, rfl⟩
    rw [hpl'] at hl2 hc1 hr hu hpl hlk hlk2
    have HS2 : Hid (u2.cell? ⟨ba, 0, none⟩ = some (.int .i64 x) ∧ u2.cell? ⟨bm, 0, none⟩ = some (.map (some mb)) ∧ (Instr.lookup 38 (.map (some mb)) (.int .i64 x) false).run Try.prog u2 = .ok (.slice (some ⟨g, off, none⟩) pl c) u2) := Lib.hid ⟨cA2, cM2, hlk2⟩
    have HS : Hid (∀ w', Turn w w' [] → w'.cell? ⟨ba, 0, none⟩ = some (.int .i64 x) ∧ w'.cell? ⟨bm, 0, none⟩ = some (.map (some mb)) ∧ (Instr.lookup 38 (.map (some mb)) (.int .i64 x) false).run Try.prog w' = .ok (.slice (some ⟨g, off, none⟩) pl c) w') :=
      Lib.hid (fun w' hT => ⟨hT.cell cA (by simp), hT.cell cM (by simp), hlk w' hT⟩)
    have HT1 := Lib.hid T1
    have hr : (Builtin.append_ #[26, 26] 26 #[.slice (some ⟨g, off, none⟩) pl pl, .slice (some ⟨w.heap.size, 0, none⟩) 1 1]).run Try.prog ((w.alloc (.cells #[.int .i64 i] 3)).drew) = .ok (.slice (some ⟨b', 0, none⟩) (pl + 1) c') u1 := hr
    have hc3 : c ≤ 9223372036854775807 := by unfold maxLen at hc2; omega
    have hpl0 : (0 : Int) ≤ (pl : Int) := Int.natCast_nonneg _
    have hplc : (pl : Int) ≤ (c : Int) := by omega
    clear hl1 hM hcon ha T1 T2 hQ hO hput hfin hpl' hc2 hlk hlk2 cA2 cM2 hl2
    rcases Nat.eq_zero_or_pos pl with rfl | hpos
    · skip
      go_enter Try.func18, Try.ntmps18
      go_wp2
      go_region_held3 (fun w' => w'.cell? ⟨ba, 0, none⟩ = some (.int .i64 x) ∧ w'.cell? ⟨bm, 0, none⟩ = some (.map (some mb)) ∧ (Instr.lookup 38 (.map (some mb)) (.int .i64 x) false).run Try.prog w' = .ok (.slice (some ⟨g, off, none⟩) 0 c) w')
        (first | exact HS.out _ (Turn.refl w []).drew | exact HS.out _ ((Turn.refl w []).alloc _).drew | exact HS.out _ HT1.out | exact HS2.out)
        (refine step_append_run (by rfl) (.tmp 39) (.tmp 41) 26 (by rfl) _ _ (by rfl) (by rfl) _ _ hr ?_)
      all_goals (
        go_wp2_with fail
        (with_reducible refine Calls.mono HPUT.out ?_)
        rintro e w3 ⟨rfl, hp⟩
        obtain ⟨k1, k2, k3, k4⟩ := HFIN.out w3 hp
        have HM := Lib.hid k1
        have HT : Hid (∃ T, Turn w w3 T ∧ (∀ y, y ∈ X → y ∉ T) ∧ ∀ y, y ∈ T → lo ≤ y) := Lib.hid ⟨_, k2, k3, k4⟩
        clear k1 k2 k3 k4 hp
        go_wp2
        refine bodyPost_end (results_none rfl _ _ _) rfl ?_
        rw [HST.out]
        exact ⟨rfl, HM.out, HT.out⟩)
    · have hpne : ¬ pl = 0 := by omega
      go_enter Try.func18, Try.ntmps18
      go_wp2
      go_region_held3 (fun w' => w'.cell? ⟨ba, 0, none⟩ = some (.int .i64 x) ∧ w'.cell? ⟨bm, 0, none⟩ = some (.map (some mb)) ∧ (Instr.lookup 38 (.map (some mb)) (.int .i64 x) false).run Try.prog w' = .ok (.slice (some ⟨g, off, none⟩) pl c) w')
        (first | exact HS.out _ (Turn.refl w []).drew | exact HS.out _ ((Turn.refl w []).alloc _).drew | exact HS.out _ HT1.out | exact HS2.out)
        (refine step_append_run (by rfl) (.tmp 39) (.tmp 41) 26 (by rfl) _ _ (by rfl) (by rfl) _ _ hr ?_)
      all_goals (
        go_wp2_with fail
        (with_reducible refine Calls.mono HPUT.out ?_)
        rintro e w3 ⟨rfl, hp⟩
        obtain ⟨k1, k2, k3, k4⟩ := HFIN.out w3 hp
        have HM := Lib.hid k1
        have HT : Hid (∃ T, Turn w w3 T ∧ (∀ y, y ∈ X → y ∉ T) ∧ ∀ y, y ∈ T → lo ≤ y) := Lib.hid ⟨_, k2, k3, k4⟩
        clear k1 k2 k3 k4 hp
        go_wp2
        refine bodyPost_end (results_none rfl _ _ _) rfl ?_
        rw [HST.out]
        exact ⟨rfl, HM.out, HT.out⟩)
end Go.Proofs.Ytoeoibcjenknmaa
