/- The reference's search.
The search finds the shortest path, the first one in lexicographic order. No walk. -/
import Derived.Test.YtoeoibcjenknmaaPb08
import Derived.Test.YtoeoibcjenknmaaPb22
namespace Go.Proofs.Ytoeoibcjenknmaa
open Go.RowKit Go.Shelf

/-- What a path is asked of. -/
def PathOk (p : Par) (h : List Int) (want : Int) : Prop := Good p ∧ IsAuto p.n want ∧ (h.length : Int) ≤ 2 * p.n ∧ ∀ i, i < h.length → IsAuto p.n (h.getD i 0)
/-- The search's answer. -/
def pathR (p : Par) (h : List Int) (want : Int) : Option (List Int) := bfs (2 * p.n) h want 65 0 [(1, [])]
/-- What a path's call returns. -/
def PathEnd (p : Par) (h : List Int) (want : Int) (e : Ending) (w' : World) : Prop :=
  (¬ PathOk p h want ∧ e = .returned (.tuple #[.slice none 0 0, .int .i64 2])) ∨
  (PathOk p h want ∧ pathR p h want = none ∧ e = .returned (.tuple #[.slice none 0 0, .int .i64 4])) ∨
  ∃ l ao c, PathOk p h want ∧ pathR p h want = some l ∧ l.length ≤ 64 ∧ e = .returned (.tuple #[.slice ao l.length c, .int .i64 0]) ∧ RdI w' ao l ∧ l.length ≤ c

theorem par_cells {w : World} {b : Nat} {v0 v1 v2 v3 v4 v5 v6 : Value} (h : Blk w b 25 #[v0, v1, v2, v3, v4, v5, v6]) :
    w.cell? ⟨b, 0, none⟩ = some v0 ∧ w.cell? ⟨b, 1, none⟩ = some v1 ∧ w.cell? ⟨b, 2, none⟩ = some v2 ∧ w.cell? ⟨b, 3, none⟩ = some v3 ∧ w.cell? ⟨b, 4, none⟩ = some v4 ∧ w.cell? ⟨b, 5, none⟩ = some v5 ∧ w.cell? ⟨b, 6, none⟩ = some v6 :=
  ⟨h.cell 0, h.cell 1, h.cell 2, h.cell 3, h.cell 4, h.cell 5, h.cell 6⟩

theorem bfs_none {m : Int} {h : List Int} {want : Int} {f a : Nat} {S : List (Int × List Int)} (hS : S.length ≤ a) : bfs m h want (f + 1) a S = none := by
  unfold bfs; rw [List.getElem?_eq_none hS]
theorem bfs_hit {m : Int} {h : List Int} {want : Int} {f a : Nat} {S : List (Int × List Int)} {px : List Int} (hS : S[a]? = some (want, px)) : bfs m h want (f + 1) a S = some px := by
  unfold bfs; rw [hS]; simp
theorem bfs_on {m : Int} {h : List Int} {want x : Int} {f a : Nat} {S : List (Int × List Int)} {px : List Int} (hS : S[a]? = some (x, px)) (hx : x ≠ want) : bfs m h want (f + 1) a S = bfs m h want f (a + 1) (bround m h x px S h.length) := by
  conv => lhs; unfold bfs
  rw [hS]; simp [hx]
theorem mul_bounds {x k z : Int} (h : x * k = z) (hx : 0 ≤ x) (hx2 : x ≤ 64) (hk : 0 ≤ k) (hk2 : k ≤ 64) : 0 ≤ z ∧ z ≤ 4096 := by
  rw [← h]
  exact ⟨Int.mul_nonneg hx hk, Int.mul_le_mul hx2 hk2 hk (by omega)⟩

set_option maxHeartbeats 12800000 in
set_option maxRecDepth 100000 in
theorem r19path_walk (p : Par) (ca : Option Addr) (cc : Nat) (ao : Option Addr) (hc : Nat) (h : List Int) (want : Int) (w : World) (hin : ParIn w p ca cc) (hrd : RdI w ao h) (hlen : h.length ≤ 200)
    (hh : ∀ i, i < h.length → -9223372036854775808 ≤ h.getD i 0 ∧ h.getD i 0 ≤ 9223372036854775807) (hw1 : -9223372036854775808 ≤ want) (hw2 : want ≤ 9223372036854775807) :
    Calls Try.prog 8 #[.agg (p.cells ca cc), .slice ao h.length hc, .int .i64 want] w fun e w' => PathEnd p h want e w' ∧ Below w.heap.size w w' := by
  have HC := Lib.hid (r12check_walk p ca cc (w.alloc (.cells (p.cells ca cc) 25)) (hin.below ((Below.refl _ w).alloc (Nat.le_refl _) _)))
  have HW : Hid (Below w.heap.size w (w.alloc (.cells (p.cells ca cc) 25))) := Lib.hid ((Below.refl _ w).alloc (Nat.le_refl _) _)
  have HBk : Hid (Blk (w.alloc (.cells (p.cells ca cc) 25)) w.heap.size 25 (p.cells ca cc)) := Lib.hid (Blk.new _ _ _)
  obtain ⟨hl, hhl⟩ : ∃ hl, h.length = hl := ⟨_, rfl⟩
  have HL := Lib.hid hhl
  rw [hhl] at hlen ⊢
  by_cases hg : Good p
  case neg =>
    have HE : Hid (¬ PathOk p h want) := Lib.hid (fun k => hg k.1)
    rw [chk_neg hg] at HC
    unfold Par.cells at HC HW HBk ⊢
    clear hin hrd hh hg hhl
    go_enter Try.func8, Try.ntmps8
    go_wp2_with fail
    (with_reducible refine Calls.mono HC.out ?_)
    rintro e w1 ⟨rfl, hb⟩
    have HB := Lib.hid hb
    clear hb
    go_wp2
    go_ret2
    exact ⟨.inl ⟨HE.out, rfl⟩, below_step HW.out HB.out⟩
  rw [chk_pos hg] at HC
  have hn4 : 4 ≤ p.n := by rcases hg.1 with h | h | h | h <;> omega
  have hn32 : p.n ≤ 32 := by rcases hg.1 with h | h | h | h <;> omega
  have HA := Lib.hid (fun k w => r13auto_walk p ca cc k w hn4 hn32)
  have HG := Lib.hid hg
  have HIN := Lib.hid hin
  have HR := Lib.hid hrd
  have HH := Lib.hid hh
  obtain ⟨n, hn⟩ : ∃ n, p.n = n := ⟨_, rfl⟩
  have HN := Lib.hid hn
  have HCH := Lib.hid hin.len
  unfold Par.cells at HC HW HBk HA ⊢
  rw [hn] at HC HW HBk HA hn4 hn32 ⊢
  clear hin hrd hh hg hhl hn
  by_cases ha : IsAuto n want
  case neg =>
    have HE : Hid (¬ PathOk p h want) := Lib.hid (fun k => ha (HN.out ▸ k.2.1))
    have HA1 := Lib.hid (fun w => HA.out want w hw1 hw2)
    rw [tr_neg ha] at HA1
    clear ha HA
    go_enter Try.func8, Try.ntmps8
    go_wp2_with fail
    (with_reducible refine Calls.mono HC.out ?_)
    rintro e w1 ⟨rfl, hb⟩
    have HB := Lib.hid hb
    have hbk : Blk w1 w.heap.size 25 _ := HBk.out.below hb
    obtain ⟨c0, c1, c2, c3, c4, c5, c6⟩ := par_cells hbk
    clear hb hbk HBk
    go_wp2_with fail
    (with_reducible refine Calls.mono (HA1.out _) ?_)
    rintro e w2 ⟨rfl, hb⟩
    have HB2 := Lib.hid (below_step (below_step HW.out HB.out) hb)
    clear hb
    go_wp2
    go_ret2
    exact ⟨.inl ⟨HE.out, rfl⟩, HB2.out⟩
  have HA1 := Lib.hid (fun w => HA.out want w hw1 hw2)
  rw [tr_pos ha] at HA1
  have HAW : Hid (IsAuto n want) := Lib.hid ha
  clear ha
  by_cases hn2 : (hl : Int) ≤ 2 * n
  case neg =>
    have HE : Hid (¬ PathOk p h want) := Lib.hid (fun k => hn2 (HN.out ▸ HL.out ▸ k.2.2.1))
    have g2 : decide (2 * n < (hl : Int)) = true := decide_eq_true (by omega)
    clear HA
    go_enter Try.func8, Try.ntmps8
    go_wp2_with fail
    (with_reducible refine Calls.mono HC.out ?_)
    rintro e w1 ⟨rfl, hb⟩
    have HB := Lib.hid hb
    have hbk : Blk w1 w.heap.size 25 _ := HBk.out.below hb
    obtain ⟨c0, c1, c2, c3, c4, c5, c6⟩ := par_cells hbk
    clear hbk
    go_wp2_with fail
    (with_reducible refine Calls.mono (HA1.out _) ?_)
    rintro e w2 ⟨rfl, hb2⟩
    have HB2 := Lib.hid (below_step (below_step HW.out HB.out) hb2)
    have hbk : Blk w2 w.heap.size 25 _ := (HBk.out.below hb).below hb2
    obtain ⟨c0, c1, c2, c3, c4, c5, c6⟩ := par_cells hbk
    clear hb hb2 hbk HBk
    go_wp2
    go_ret2
    exact ⟨.inl ⟨HE.out, rfl⟩, HB2.out⟩
  have g2 : decide (2 * n < (hl : Int)) = false := decide_eq_false (by omega)
  go_enter Try.func8, Try.ntmps8
  go_wp2_with fail
  (with_reducible refine Calls.mono HC.out ?_)
  rintro e w1 ⟨rfl, hb⟩
  have HB := Lib.hid hb
  have hbk : Blk w1 w.heap.size 25 _ := HBk.out.below hb
  obtain ⟨c0, c1, c2, c3, c4, c5, c6⟩ := par_cells hbk
  clear hbk
  go_wp2_with fail
  (with_reducible refine Calls.mono (HA1.out _) ?_)
  rintro e w2 ⟨rfl, hb2⟩
  have HB2 := Lib.hid (below_step (below_step HW.out HB.out) hb2)
  have hbk : Blk w2 w.heap.size 25 _ := (HBk.out.below hb).below hb2
  have HK := Lib.hid hbk
  obtain ⟨c0, c1, c2, c3, c4, c5, c6⟩ := par_cells hbk
  clear hb hb2 hbk HBk HC HW HB HA1
  go_wp2
  go_loopg [8] hl (fun k vi wr => ∃ i : Nat, vi = .int .i64 i ∧ i ≤ hl ∧ hl - i ≤ k ∧ Hid (Below w2.heap.size w2 wr) ∧ Hid (∀ j, j < i → IsAuto n (h.getD j 0)))
  case atStart => exact ⟨0, rfl, by omega, by omega, Lib.hid (Below.refl _ _), Lib.hid (fun j hj => absurd hj (Nat.not_lt_zero j))⟩
  case round =>
    obtain ⟨i, rfl, hi, hk, HBr, HP⟩ := hrel
    by_cases hlt : i < hl
    · obtain ⟨bh, oh, rfl, hcc⟩ := ((HR.out.below HB2.out).below HBr.out) i (by rw [HL.out]; exact hlt)
      have ch := hcc i (by rw [HL.out]; exact hlt)
      have hb1 := (HH.out i (by rw [HL.out]; exact hlt)).1
      have hb2 := (HH.out i (by rw [HL.out]; exact hlt)).2
      obtain ⟨x, hx⟩ : ∃ x, h.getD i 0 = x := ⟨_, rfl⟩
      rw [hx] at ch hb1 hb2
      have HX := Lib.hid hx
      have HAx := Lib.hid (fun w => HA.out x w hb1 hb2)
      obtain ⟨c0, c1, c2, c3, c4, c5, c6⟩ := par_cells (HK.out.below HBr.out)
      clear hcc hx
      by_cases hax : IsAuto n x
      · rw [tr_pos hax] at HAx
        have HP' : Hid (∀ j, j < i + 1 → IsAuto n (h.getD j 0)) := Lib.hid (fun j hj => by
          rcases Nat.lt_or_eq_of_le (Nat.le_of_lt_succ hj) with hh | rfl
          · exact HP.out j hh
          · rw [HX.out]; exact hax)
        clear hax
        have HBd : Hid (Below w2.heap.size w2 wr.drew) := Lib.hid (below_step HBr.out (Turn.refl wr []).drew.below)
        go_wp2
        go_region_with (go_at_call 12; refine (HAx.out _).mono ?_; rintro e w3 ⟨rfl, hb⟩; have HB3 := Lib.hid (below_step HBd.out hb); clear hb)
        all_goals (
          go_wp2
          go_roundg (hl - (i + 1))
          case measure => omega
          case rel => exact ⟨i + 1, by go_num, by omega, Nat.le_refl _, HB3, HP'⟩)
      · rw [tr_neg hax] at HAx
        have HE : Hid (¬ PathOk p h want) := Lib.hid (fun k => hax (by have := k.2.2.2 i (by rw [HL.out]; exact hlt); rw [HX.out, HN.out] at this; exact this))
        have HBd : Hid (Below w2.heap.size w2 wr.drew) := Lib.hid (below_step HBr.out (Turn.refl wr []).drew.below)
        go_wp2
        go_region_with (go_at_call 12; refine (HAx.out _).mono ?_; rintro e w3 ⟨rfl, hb⟩; have HB3 := Lib.hid (below_step HBd.out hb); clear hb)
        all_goals (
          go_wp2
          go_ret2
          exact ⟨.inl ⟨HE.out, rfl⟩, below_step HB2.out HB3.out⟩)
    · have ei : hl = i := by omega
      subst ei
      have HOK : Hid (PathOk p h want) := Lib.hid ⟨HG.out, HN.out ▸ HAW.out, by rw [HL.out, HN.out]; exact hn2, fun j hj => by rw [HN.out]; exact HP.out j (by rw [← HL.out]; exact hj)⟩
      clear HA HAW
      obtain ⟨wo, rfl⟩ : ∃ wo, wo = wr := ⟨_, rfl⟩
      go_wp2
      go_loopg [9, 10, 11] 65 (fun k v9 v10 va wr => ∃ (a sz c9 c10 : Nat) (a9 a10 : Option Addr) (S : List (Int × List Int)), v9 = .slice a9 sz c9 ∧ v10 = .slice a10 sz c10 ∧ va = .int .i64 a ∧ a ≤ sz ∧ sz ≤ 64 ∧ 65 - a ≤ k ∧
        Hid (S.length = sz ∧ RMem wr wo.heap.size S (.slice a9 sz c9) (.slice a10 sz c10) ∧ BInv (2 * n) S ∧ BLen S ∧ bfs (2 * n) h want (65 - a) a S = pathR p h want) ∧ Hid (Below wo.heap.size wo wr))
      case atStart =>
        refine ⟨0, 1, 1, 1, _, _, [(1, [])], rfl, rfl, rfl, by omega, by omega, by omega, Lib.hid ⟨rfl, RMem.start (Nat.le_refl _), BInv.start (by omega), BLen.start, ?_⟩, Lib.hid (((Below.refl _ wo).alloc (Nat.le_refl _) _).alloc (by simp) _)⟩
        unfold pathR
        rw [HN.out]
      case round =>
        obtain ⟨a, sz, c9, c10, a9, a10, S, rfl, rfl, rfl, has, hsz, hk, HS, HBw⟩ := hrel
        by_cases hal : a < sz
        case neg =>
          obtain rfl : a = sz := by omega
          have HR0 : Hid (pathR p h want = none) := Lib.hid (by rw [← HS.out.2.2.2.2, show 65 - a = (64 - a) + 1 by omega]; exact bfs_none (by rw [HS.out.1]; exact Nat.le_refl _))
          have HBf := Lib.hid (below_step HB2.out (below_step HBr.out HBw.out))
          clear HS HBw HK HB2 HBr
          go_wp2
          go_ret2
          exact ⟨.inr (.inl ⟨HOK.out, HR0.out, rfl⟩), HBf.out⟩
        obtain ⟨⟨x, px⟩, hax⟩ : ∃ y, S[a]? = some y := ⟨_, List.getElem?_eq_getElem (by rw [HS.out.1]; exact hal)⟩
        obtain ⟨b9, o9, b10, o10, ao2, c2, rfl, rfl, d9, d10, hrp⟩ := HS.out.2.1.rd hax
        have HAX := Lib.hid hax
        by_cases hxw : x = want
        · have hpl := HS.out.2.2.2.1 a _ hax
          have HR0 : Hid (pathR p h want = some px) := Lib.hid (by rw [← HS.out.2.2.2.2, show 65 - a = (64 - a) + 1 by omega]; exact bfs_hit (hxw ▸ hax))
          have HBf := Lib.hid (below_step HB2.out (below_step HBr.out HBw.out))
          have HRP := Lib.hid hrp
          have gx : (x == want) = true := by simp [hxw]
          simp only at hpl
          clear HS HBw HK HB2 HBr hrp hax HAX
          go_wp2
          go_ret2
          exact ⟨.inr (.inr ⟨px, _, _, HOK.out, HR0.out, by omega, rfl, HRP.out⟩), HBf.out⟩
        have gx : (x == want) = false := by simp [hxw]
        have HR1 : Hid (bfs (2 * n) h want (64 - a) (a + 1) (bround (2 * n) h x px S hl) = pathR p h want) := Lib.hid (by
          rw [← HS.out.2.2.2.2, show 65 - a = (64 - a) + 1 by omega, bfs_on hax hxw, HL.out])
        have HS0 : Hid (S.length = sz ∧ RMem wr wo.heap.size S (.slice (some ⟨b9, o9, none⟩) sz c9) (.slice (some ⟨b10, o10, none⟩) sz c10) ∧ BInv (2 * n) S ∧ BLen S) := Lib.hid ⟨HS.out.1, HS.out.2.1, HS.out.2.2.1, HS.out.2.2.2.1⟩
        clear hrp hax hxw HS
        go_wp2
        go_loopg [9, 10, 12] hl (fun k v9 v10 vi wr => ∃ (i sz c9 c10 : Nat) (a9 a10 : Option Addr), v9 = .slice a9 sz c9 ∧ v10 = .slice a10 sz c10 ∧ vi = .int .i64 i ∧ i ≤ hl ∧ hl - i ≤ k ∧ a < sz ∧ sz ≤ 64 ∧
          Hid ((bround (2 * n) h x px S i).length = sz ∧ RMem wr wo.heap.size (bround (2 * n) h x px S i) (.slice a9 sz c9) (.slice a10 sz c10) ∧ BInv (2 * n) (bround (2 * n) h x px S i) ∧ BLen (bround (2 * n) h x px S i)) ∧ Hid (Below wo.heap.size wo wr))
        case atStart => exact ⟨0, sz, c9, c10, _, _, rfl, rfl, rfl, by omega, by omega, hal, hsz, HS0, HBw⟩
        case round =>
          clear HS0 HBw d9 d10 gx
          obtain ⟨i, sz, c9, c10, a9, a10, rfl, rfl, rfl, hi2, hk2, hal, hsz, HS, HBw⟩ := hrel
          by_cases hil : i < hl
          case neg =>
            have ei : hl = i := by omega
            subst ei
            go_wp2
            go_roundg (65 - (a + 1))
            case measure => omega
            case rel => exact ⟨a + 1, sz, c9, c10, a9, a10, _, rfl, rfl, by go_num, by omega, hsz, Nat.le_refl _, Lib.hid ⟨HS.out.1, HS.out.2.1, HS.out.2.2.1, HS.out.2.2.2, by rw [show 65 - (a + 1) = 64 - a by omega]; exact HR1.out⟩, HBw⟩
          obtain ⟨S', hS'⟩ : ∃ S', bround (2 * n) h x px S i = S' := ⟨_, rfl⟩
          have hax := bround_get (m := 2 * n) (h := h) (x := x) (px := px) HAX.out i
          rw [hS'] at hax
          have HSn : Hid (bround (2 * n) h x px S (i + 1) = bstep (2 * n) x px S' i (h.getD i 0)) := Lib.hid (by rw [← hS']; rfl)
          rw [hS'] at HS
          clear hS'
          obtain ⟨b9, o9, b10, o10, ao2, c2, rfl, rfl, d9, d10, hrp⟩ := HS.out.2.1.rd hax
          have hB0 := below_step HBr.out HBw.out
          obtain ⟨bh, oh, rfl, hcc⟩ := ((HR.out.below HB2.out).below hB0) i (by rw [HL.out]; exact hil)
          have ch := hcc i (by rw [HL.out]; exact hil)
          have hauto := HOK.out.2.2.2 i (by rw [HL.out]; exact hil)
          obtain ⟨kx, hkx⟩ : ∃ kx, h.getD i 0 = kx := ⟨_, rfl⟩
          rw [hkx] at ch hauto HSn
          rw [HN.out] at hauto
          have hx0 := HS.out.2.2.1.2 (x, px) (List.mem_of_getElem? hax)
          simp only at hx0
          obtain ⟨z, hz⟩ : ∃ z, x * kx = z := ⟨_, rfl⟩
          have hzb := mul_bounds hz hx0.1 (by omega) (by have := hauto.1; omega) (by have := hauto.2.1; omega)
          obtain ⟨nx, hnx⟩ : ∃ nx, z % (2 * n) = nx := ⟨_, rfl⟩
          have hnx0 : 0 ≤ nx ∧ nx < 64 := by rw [← hnx]; exact ⟨Int.emod_nonneg _ (by omega), Int.lt_of_lt_of_le (Int.emod_lt_of_pos _ (by omega)) (by omega)⟩
          obtain ⟨c0, c1, c2', c3, c4, c5, c6⟩ := par_cells (HK.out.below hB0)
          have hpl := HS.out.2.2.2 a _ hax
          simp only at hpl
          have HAm : Hid (∀ m, Calls Try.prog 19 #[.slice (some ⟨b9, o9, none⟩) sz c9, .int .i64 nx] (wr.drewN m) fun e w' => e = .returned (.bool ((S'.map Prod.fst).contains nx)) ∧
              RMem w' wo.heap.size S' (.slice (some ⟨b9, o9, none⟩) sz c9) (.slice (some ⟨b10, o10, none⟩) sz c10) ∧ Below wo.heap.size wo w') := Lib.hid (fun m => by
            have hA := among_walk (some ⟨b9, o9, none⟩) c9 (S'.map Prod.fst) nx (wr.drewN m) (by rw [List.length_map, HS.out.1]; omega) (HS.out.2.1.drewN m).rd9
            rw [List.length_map, HS.out.1] at hA
            refine hA.mono ?_
            rintro e w' ⟨h1, rfl⟩
            exact ⟨h1, HS.out.2.1.drewN m, below_step HBw.out ((Turn.refl wr []).drewN m).below⟩)
          have HHX := Lib.hid hax
          have HNX : Hid (x * kx % (2 * n) = nx) := Lib.hid (by rw [hz, hnx])
          have HS1 : Hid (S'.length = sz ∧ BInv (2 * n) S' ∧ BLen S') := Lib.hid ⟨HS.out.1, HS.out.2.2⟩
          clear hcc hkx hB0 hrp hax HS HBw
          by_cases hcon : (S'.map Prod.fst).contains nx = true
          · rw [hcon] at HAm
            have HST : Hid (bstep (2 * n) x px S' i kx = S') := Lib.hid (by unfold bstep; rw [HNX.out, if_pos hcon])
            clear hcon
            go_wp2
            go_quiet (fail)
            go_wp2_with fail
            (with_reducible refine Calls.mono (HAm.out _) ?_)
            rintro e w5 ⟨rfl, hR5, hB5⟩
            have HR5 := Lib.hid hR5
            have HB5 := Lib.hid hB5
            clear hR5 hB5
            go_wp2
            go_roundg (hl - (i + 1))
            case measure => omega
            case rel => exact ⟨i + 1, sz, c9, c10, _, _, rfl, rfl, by go_num, by omega, Nat.le_refl _, hal, hsz, Lib.hid (by rw [HSn.out, HST.out]; exact ⟨HS1.out.1, HR5.out, HS1.out.2⟩), HB5⟩
          · have hcf : (S'.map Prod.fst).contains nx = false := by simpa using hcon
            rw [hcf] at HAm
            have HST : Hid (bstep (2 * n) x px S' i kx = S' ++ [(nx, px ++ [(i : Int)])]) := Lib.hid (by unfold bstep; rw [HNX.out, if_neg (by rw [hcf]; simp)])
            have HI2 : Hid (BInv (2 * n) (S' ++ [(nx, px ++ [(i : Int)])])) := Lib.hid (by rw [← HST.out]; exact HS1.out.2.1.step (by omega))
            have HL2 : Hid (BLen (S' ++ [(nx, px ++ [(i : Int)])])) := Lib.hid (by rw [← HST.out]; exact HS1.out.2.2.step HHX.out)
            have hsz2 : sz + 1 ≤ 64 := by
              have := HI2.out.length (by omega) (by omega)
              rw [List.length_append, HS1.out.1] at this
              exact this
            clear hcon hcf
            go_wp2
            go_quiet (fail)
            go_wp2_with fail
            (with_reducible refine Calls.mono (HAm.out _) ?_)
            rintro e w5 ⟨rfl, hR5, hB5⟩
            obtain ⟨a9', c9', u1, b10', o10', ao3, c3', a2, c2x, u2, a3, c3x, u3, a10', c10', u4, hr1, e10, hcell, hr2, hr3, hr4, hR6, hB6⟩ := hR5.grow HS1.out.1 hB5.size (by omega) HHX.out (by omega) nx i
            cases e10
            have hbl := World.block_lt_of_cell? u1 _ hcell
            simp only at hbl
            have HR6 := Lib.hid hR6
            have HB6 : Hid (Below wo.heap.size wo u4) := Lib.hid (hB5.trans hB6)
            clear hR5 hB5 hR6 hB6
            go_wp2_with (at_builtin; first
              | refine Lib.wpList_append_run _ rfl (.tmp 85) (.tmp 87) 26 26 rfl _ _ rfl rfl _ _ hr1 ?_
              | refine Lib.wpList_append_run _ rfl (.tmp 90) (.tmp 94) 26 26 rfl _ _ rfl rfl _ _ hr2 ?_
              | refine Lib.wpList_append_run _ rfl (.tmp 95) (.tmp 97) 26 26 rfl _ _ rfl rfl _ _ hr3 ?_
              | refine Lib.wpList_append_run _ rfl (.tmp 89) (.tmp 99) 46 46 rfl _ _ rfl rfl _ _ hr4 ?_)
            go_wp2
            go_roundg (hl - (i + 1))
            case measure => omega
            case rel => exact ⟨i + 1, sz + 1, c9', c10', _, _, rfl, rfl, by go_num, by omega, Nat.le_refl _, by omega, hsz2, Lib.hid (by rw [HSn.out, HST.out]; exact ⟨by rw [List.length_append, HS1.out.1]; rfl, HR6.out, HI2.out, HL2.out⟩), HB6⟩
end Go.Proofs.Ytoeoibcjenknmaa

namespace Go.Proofs.Ytoeoibcjenknmaa
open Go.RowKit

/-- Lists of the same length, in lexicographic order. -/
def lxlt : List Int → List Int → Prop
  | x :: xs, y :: ys => x < y ∨ (x = y ∧ lxlt xs ys)
  | _, _ => False
/-- Shorter, or as long and earlier. -/
def Sl (p q : List Int) : Prop := p.length < q.length ∨ (p.length = q.length ∧ lxlt p q)
theorem lxlt_irr : ∀ p, ¬ lxlt p p
  | [], h => h
  | x :: xs, h => by
    rcases h with h | ⟨_, h⟩
    · omega
    · exact lxlt_irr xs h
theorem lxlt_trans : ∀ {p q r : List Int}, lxlt p q → lxlt q r → lxlt p r
  | x :: xs, y :: ys, z :: zs, h, k => by
    rcases h with h | ⟨rfl, h⟩
    · rcases k with k | ⟨rfl, k⟩
      · exact .inl (by omega)
      · exact .inl h
    · rcases k with k | ⟨rfl, k⟩
      · exact .inl k
      · exact .inr ⟨rfl, lxlt_trans h k⟩
  | x :: xs, y :: ys, [], h, k => absurd k id
  | x :: xs, [], _, h, k => absurd h id
  | [], _, _, h, k => by cases ‹List Int› <;> exact absurd h id
theorem lxlt_total : ∀ {p q : List Int}, p.length = q.length → lxlt p q ∨ p = q ∨ lxlt q p
  | [], [], _ => .inr (.inl rfl)
  | x :: xs, y :: ys, h => by
    have h' : xs.length = ys.length := by simpa using h
    by_cases h1 : x < y
    · exact .inl (.inl h1)
    by_cases h2 : y < x
    · exact .inr (.inr (.inl h2))
    obtain rfl : x = y := by omega
    rcases lxlt_total h' with k | rfl | k
    · exact .inl (.inr ⟨rfl, k⟩)
    · exact .inr (.inl rfl)
    · exact .inr (.inr (.inr ⟨rfl, k⟩))
  | [], y :: ys, h => by simp at h
  | x :: xs, [], h => by simp at h
theorem lxlt_snoc {i j : Int} : ∀ {p q : List Int}, lxlt p q → lxlt (p ++ [i]) (q ++ [j])
  | _ :: _, _ :: _, h => by
    rcases h with h | ⟨rfl, h⟩
    · exact .inl h
    · exact .inr ⟨rfl, lxlt_snoc h⟩
  | [], _, h => by cases ‹List Int› <;> exact absurd h id
  | _ :: _, [], h => absurd h id
theorem lxlt_last {i j : Int} (h : i < j) : ∀ p : List Int, lxlt (p ++ [i]) (p ++ [j])
  | [] => .inl h
  | _ :: xs => .inr ⟨rfl, lxlt_last h xs⟩
theorem Sl.irr {p : List Int} (h : Sl p p) : False := by
  rcases h with h | ⟨_, h⟩
  · omega
  · exact lxlt_irr p h
theorem Sl.trans {p q r : List Int} (h : Sl p q) (k : Sl q r) : Sl p r := by
  rcases h with h | ⟨h1, h2⟩
  · rcases k with k | ⟨k1, k2⟩
    · exact .inl (by omega)
    · exact .inl (by omega)
  · rcases k with k | ⟨k1, k2⟩
    · exact .inl (by omega)
    · exact .inr ⟨by omega, lxlt_trans h2 k2⟩
theorem Sl.snoc {p q : List Int} {i j : Int} (h : Sl p q) : Sl (p ++ [i]) (q ++ [j]) := by
  rcases h with h | ⟨h1, h2⟩
  · exact .inl (by simp; omega)
  · exact .inr ⟨by simp [h1], lxlt_snoc h2⟩
theorem Sl.last {p : List Int} {i j : Int} (h : i < j) : Sl (p ++ [i]) (p ++ [j]) := .inr ⟨by simp, lxlt_last h p⟩
theorem Sl.cons {p q : List Int} {x : Int} (h : Sl p q) : Sl (x :: p) (x :: q) := by
  rcases h with h | ⟨h1, h2⟩
  · exact .inl (by simp; omega)
  · exact .inr ⟨by simp [h1], .inr ⟨rfl, h2⟩⟩
/-- At most as late. -/
def Sle (p q : List Int) : Prop := Sl p q ∨ p = q
theorem Sle.trans {p q r : List Int} (h : Sle p q) (k : Sle q r) : Sle p r := by
  rcases h with h | rfl
  · rcases k with k | rfl
    · exact .inl (h.trans k)
    · exact .inl h
  · exact k
theorem Sle.snoc {p q : List Int} {i : Int} (h : Sle p q) : Sle (p ++ [i]) (q ++ [i]) := by
  rcases h with h | rfl
  · exact .inl h.snoc
  · exact .inr rfl

/-- The numbers' product. -/
def prodI (h : List Int) : List Int → Int
  | [] => 1
  | i :: q => h.getD i.toNat 0 * prodI h q
theorem prodI_snoc (h : List Int) (i : Int) : ∀ q, prodI h (q ++ [i]) = prodI h q * h.getD i.toNat 0
  | [] => by simp [prodI]
  | x :: q => by
    show h.getD x.toNat 0 * prodI h (q ++ [i]) = h.getD x.toNat 0 * prodI h q * h.getD i.toNat 0
    rw [prodI_snoc h i q, Int.mul_assoc]
/-- An index list that is one. -/
def ValidP (h : List Int) (q : List Int) : Prop := ∀ i, i ∈ q → 0 ≤ i ∧ i < (h.length : Int)
theorem emod_step (a b m : Int) : a % m * b % m = a * b % m := by
  rw [Int.mul_emod, Int.emod_emod_of_dvd _ (Int.dvd_refl m), ← Int.mul_emod]

/-- The states of the search that does not stop. -/
def full (m : Int) (h : List Int) : Nat → List (Int × List Int)
  | 0 => [(1, [])]
  | a + 1 => match (full m h a)[a]? with
    | none => full m h a
    | some (x, px) => bround m h x px (full m h a) h.length
theorem full_some {m : Int} {h : List Int} {a : Nat} {x : Int} {px : List Int} (k : (full m h a)[a]? = some (x, px)) : full m h (a + 1) = bround m h x px (full m h a) h.length := by
  conv => lhs; unfold full
  rw [k]
theorem full_none {m : Int} {h : List Int} {a : Nat} (k : (full m h a)[a]? = none) : full m h (a + 1) = full m h a := by
  conv => lhs; unfold full
  rw [k]
theorem full_get1 {m : Int} {h : List Int} {a j : Nat} {p : Int × List Int} (k : (full m h a)[j]? = some p) : (full m h (a + 1))[j]? = some p := by
  cases e : (full m h a)[a]? with
  | none => rw [full_none e]; exact k
  | some y => obtain ⟨x, px⟩ := y; rw [full_some e]; exact bround_get k _
theorem full_get {m : Int} {h : List Int} {a j : Nat} {p : Int × List Int} (k : (full m h a)[j]? = some p) : ∀ b, (full m h (a + b))[j]? = some p
  | 0 => k
  | b + 1 => full_get1 (full_get k b)
theorem full_binv {m : Int} {h : List Int} (hm : 2 ≤ m) : ∀ a, BInv m (full m h a)
  | 0 => BInv.start hm
  | a + 1 => by
    cases e : (full m h a)[a]? with
    | none => rw [full_none e]; exact full_binv hm a
    | some y => obtain ⟨x, px⟩ := y; rw [full_some e]; exact (full_binv hm a).round (by omega) _
theorem full_blen {m : Int} {h : List Int} : ∀ a, BLen (full m h a)
  | 0 => BLen.start
  | a + 1 => by
    cases e : (full m h a)[a]? with
    | none => rw [full_none e]; exact full_blen a
    | some y => obtain ⟨x, px⟩ := y; rw [full_some e]; exact (full_blen a).round e _
theorem full_stuck {m : Int} {h : List Int} {a : Nat} (k : (full m h a)[a]? = none) : ∀ b, full m h (a + b) = full m h a
  | 0 => rfl
  | b + 1 => by
    have e := full_stuck k b
    have : (full m h (a + b))[a + b]? = none := by
      rw [e]
      rw [List.getElem?_eq_none_iff] at k ⊢
      omega
    rw [show a + (b + 1) = (a + b) + 1 by omega, full_none this, e]
/-- What the search finds. -/
theorem bfs_full {m : Int} {h : List Int} {want : Int} : ∀ (f a : Nat) (px : List Int), bfs m h want f a (full m h a) = some px → ∃ b, a ≤ b ∧ b < a + f ∧ (full m h b)[b]? = some (want, px)
  | 0, a, px, k => by unfold bfs at k; cases k
  | f + 1, a, px, k => by
    cases e : (full m h a)[a]? with
    | none => unfold bfs at k; rw [e] at k; cases k
    | some y =>
      obtain ⟨x, qx⟩ := y
      by_cases hx : x = want
      · subst hx
        rw [bfs_hit e] at k
        cases k
        exact ⟨a, Nat.le_refl _, by omega, e⟩
      · rw [bfs_on e hx, ← full_some e] at k
        obtain ⟨b, h1, h2, h3⟩ := bfs_full f (a + 1) px k
        exact ⟨b, by omega, by omega, h3⟩
theorem bfs_finds {m : Int} {h : List Int} {want : Int} (hm : 2 ≤ m) : ∀ (f a b : Nat) (px : List Int), a ≤ b → b < a + f → (full m h b)[b]? = some (want, px) → bfs m h want f a (full m h a) = some px
  | 0, a, b, px, h1, h2, _ => by omega
  | f + 1, a, b, px, h1, h2, k => by
    cases e : (full m h a)[a]? with
    | none =>
      have := full_stuck e (b - a)
      rw [show a + (b - a) = b by omega] at this
      rw [this] at k
      rw [List.getElem?_eq_none_iff] at e
      rw [List.getElem?_eq_none (by omega)] at k
      cases k
    | some y =>
      obtain ⟨x, qx⟩ := y
      by_cases hx : x = want
      · subst hx
        rw [bfs_hit e]
        have e2 := full_get e (b - a)
        rw [show a + (b - a) = b by omega] at e2
        have hn := (full_binv (h := h) hm b).1
        have : a = b := by
          have g1 : ((full m h b).map Prod.fst)[a]? = some x := by rw [List.getElem?_map, e2]; rfl
          have g2 : ((full m h b).map Prod.fst)[b]? = some x := by rw [List.getElem?_map, k]; rfl
          obtain ⟨l1, g1⟩ := List.getElem?_eq_some_iff.1 g1
          obtain ⟨l2, g2⟩ := List.getElem?_eq_some_iff.1 g2
          exact (List.getElem_inj hn).1 (g1.trans g2.symm)
        subst this
        rw [e] at k
        cases k
        rfl
      · rw [bfs_on e hx, ← full_some e]
        have : a ≠ b := by
          rintro rfl
          rw [e] at k
          cases k
          exact hx rfl
        exact bfs_finds hm f (a + 1) b px (by omega) (by omega) k

/-- The order of a search: the paths grow, each is made of an earlier one. -/
structure Ord (m : Int) (h : List Int) (T : List (Int × List Int)) (a j : Nat) : Prop where
  first : T[0]? = some (1, [])
  made : ∀ (c : Nat) (y : Int) (q : List Int), T[c]? = some (y, q) → c ≠ 0 → ∃ (b : Nat) (z : Int) (p : List Int) (i : Nat), T[b]? = some (z, p) ∧ b < c ∧ q = p ++ [(i : Int)] ∧ i < h.length ∧ y = z * h.getD i 0 % m ∧ (b < a ∨ (b = a ∧ i < j))
  sorted : ∀ (b c : Nat) (x y : Int) (p q : List Int), b < c → T[b]? = some (x, p) → T[c]? = some (y, q) → Sl p q
theorem Ord.upper {m : Int} {h : List Int} {T : List (Int × List Int)} {a j : Nat} (o : Ord m h T a j) {x : Int} {px : List Int} (ha : T[a]? = some (x, px)) {c : Nat} {y : Int} {q : List Int} (hc : T[c]? = some (y, q)) {i : Nat} (hi : j ≤ i) : Sl q (px ++ [(i : Int)]) := by
  by_cases h0 : c = 0
  · subst h0
    rw [o.first] at hc
    cases hc
    exact .inl (by simp)
  · obtain ⟨b, z, p, i', h1, _, rfl, _, _, h2⟩ := o.made c y q hc h0
    rcases h2 with h2 | ⟨rfl, h2⟩
    · exact (o.sorted b a z x p px h2 h1 ha).snoc
    · rw [ha] at h1
      cases h1
      exact Sl.last (by omega)
theorem Ord.step {m : Int} {h : List Int} {T : List (Int × List Int)} {a j : Nat} (o : Ord m h T a j) {x : Int} {px : List Int} (ha : T[a]? = some (x, px)) (hj : j < h.length) : Ord m h (bstep m x px T j (h.getD j 0)) a (j + 1) := by
  unfold bstep
  split
  · exact ⟨o.first, fun c y q hc h0 => by
      obtain ⟨b, z, p, i', h1, h2, h3, h4, h5, h6⟩ := o.made c y q hc h0
      exact ⟨b, z, p, i', h1, h2, h3, h4, h5, by omega⟩, o.sorted⟩
  · have hal := (List.getElem?_eq_some_iff.1 ha).1
    have old : ∀ {c : Nat} {p : Int × List Int}, (T ++ [(x * h.getD j 0 % m, px ++ [(j : Int)])])[c]? = some p → T[c]? = some p ∨ (c = T.length ∧ p = (x * h.getD j 0 % m, px ++ [(j : Int)])) := by
      intro c p hc
      rcases Nat.lt_or_ge c T.length with hl | hl
      · rw [List.getElem?_append_left hl] at hc; exact .inl hc
      · rw [List.getElem?_append_right hl] at hc
        have : c - T.length = 0 := by
          rcases Nat.eq_zero_or_pos (c - T.length) with h0 | h0
          · exact h0
          · rw [List.getElem?_eq_none (by simp; omega)] at hc; cases hc
        rw [this] at hc
        simp at hc
        exact .inr ⟨by omega, hc.symm⟩
    have new : ∀ {c : Nat} {p : Int × List Int}, T[c]? = some p → (T ++ [(x * h.getD j 0 % m, px ++ [(j : Int)])])[c]? = some p := fun {c p} hc => by
      rw [List.getElem?_append_left (List.getElem?_eq_some_iff.1 hc).1]; exact hc
    refine ⟨new o.first, ?_, ?_⟩
    · intro c y q hc h0
      rcases old hc with hc | ⟨rfl, hp⟩
      · obtain ⟨b, z, p, i', h1, h2, h3, h4, h5, h6⟩ := o.made c y q hc h0
        exact ⟨b, z, p, i', new h1, h2, h3, h4, h5, by omega⟩
      · cases hp
        exact ⟨a, x, px, j, new ha, hal, rfl, hj, rfl, .inr ⟨rfl, by omega⟩⟩
    · intro b c x1 y1 p q hbc hb hc
      rcases old hc with hc | ⟨rfl, hp⟩
      · rcases old hb with hb | ⟨rfl, _⟩
        · exact o.sorted b c x1 y1 p q hbc hb hc
        · have := (List.getElem?_eq_some_iff.1 hc).1; omega
      · cases hp
        rcases old hb with hb | ⟨rfl, _⟩
        · exact o.upper ha hb (Nat.le_refl _)
        · omega
theorem Ord.round {m : Int} {h : List Int} {S : List (Int × List Int)} {a : Nat} (o : Ord m h S a 0) {x : Int} {px : List Int} (ha : S[a]? = some (x, px)) : ∀ j, j ≤ h.length → Ord m h (bround m h x px S j) a j
  | 0, _ => o
  | j + 1, hj => (o.round ha j (by omega)).step (bround_get ha j) (by omega)
theorem full_ord {m : Int} {h : List Int} : ∀ a, Ord m h (full m h a) a 0
  | 0 => by
    have e : ∀ c, (full m h 0)[c + 1]? = none := fun c => by simp [full]
    refine ⟨rfl, ?_, ?_⟩
    · intro c y q hc h0
      rcases c with _ | c
      · exact absurd rfl h0
      · rw [e] at hc; cases hc
    · intro b c x y p q hbc hb hc
      rcases c with _ | c
      · omega
      · rw [e] at hc; cases hc
  | a + 1 => by
    have o := full_ord (m := m) (h := h) a
    cases e : (full m h a)[a]? with
    | none =>
      rw [full_none e]
      exact ⟨o.first, fun c y q hc h0 => by
        obtain ⟨b, z, p, i', h1, h2, h3, h4, h5, h6⟩ := o.made c y q hc h0
        exact ⟨b, z, p, i', h1, h2, h3, h4, h5, by omega⟩, o.sorted⟩
    | some y =>
      obtain ⟨x, px⟩ := y
      rw [full_some e]
      have o2 := o.round e h.length (Nat.le_refl _)
      exact ⟨o2.first, fun c y q hc h0 => by
        obtain ⟨b, z, p, i', h1, h2, h3, h4, h5, h6⟩ := o2.made c y q hc h0
        exact ⟨b, z, p, i', h1, h2, h3, h4, h5, by omega⟩, o2.sorted⟩
/-- Each entry's path leads to it. -/
theorem full_leads {m : Int} {h : List Int} (hm : 2 ≤ m) (a : Nat) : ∀ (c : Nat) (y : Int) (q : List Int), (full m h a)[c]? = some (y, q) → ValidP h q ∧ y = prodI h q % m := by
  intro c
  induction c using Nat.strongRecOn with
  | _ c ih =>
    intro y q hc
    by_cases h0 : c = 0
    · subst h0
      rw [(full_ord a).first] at hc
      cases hc
      exact ⟨fun i hi => by simp at hi, by show (1 : Int) = 1 % m; rw [Int.emod_eq_of_lt (by omega) (by omega)]⟩
    · obtain ⟨b, z, p, i, h1, h2, rfl, h4, rfl, _⟩ := (full_ord a).made c y q hc h0
      obtain ⟨g1, g2⟩ := ih b h2 z p h1
      refine ⟨fun x hx => ?_, ?_⟩
      · rcases List.mem_append.1 hx with hx | hx
        · exact g1 x hx
        · simp at hx; subst hx; omega
      · rw [prodI_snoc, g2, emod_step]
        simp
theorem bstep_mem {m x : Int} {px : List Int} {S : List (Int × List Int)} {i : Nat} {k : Int} : ∃ (c : Nat) (r : List Int), (bstep m x px S i k)[c]? = some (x * k % m, r) ∧ (S[c]? = some (x * k % m, r) ∨ r = px ++ [(i : Int)]) := by
  unfold bstep
  split
  · rename_i hc
    have hc' : x * k % m ∈ S.map Prod.fst := by simpa using hc
    obtain ⟨p, hp, h1⟩ := List.mem_map.1 hc'
    obtain ⟨c, hc2, h2⟩ := List.mem_iff_getElem.1 hp
    refine ⟨c, p.2, ?_, .inl ?_⟩ <;> rw [List.getElem?_eq_getElem hc2, h2, ← h1]
  · exact ⟨S.length, px ++ [(i : Int)], by simp, .inr rfl⟩
/-- Each list of indices has an entry with a path that is no later. -/
theorem full_all {m : Int} {h : List Int} (hm : 2 ≤ m) (A : Nat) (hA : (full m h A).length ≤ A) : ∀ (n : Nat) (q : List Int), q.length = n → ValidP h q → ∃ (c : Nat) (r : List Int), (full m h A)[c]? = some (prodI h q % m, r) ∧ Sle r q := by
  intro n
  induction n with
  | zero =>
    intro q hq _
    have : q = [] := List.eq_nil_of_length_eq_zero hq
    subst this
    exact ⟨0, [], by rw [(full_ord A).first]; show some ((1 : Int), ([] : List Int)) = some (1 % m, []); rw [Int.emod_eq_of_lt (by omega) (by omega)], .inr rfl⟩
  | succ n ih =>
    intro q hq hv
    obtain ⟨q', i', rfl⟩ : ∃ q' i', q = q' ++ [i'] := ⟨q.dropLast, q.getLast (by intro h; subst h; simp at hq), (List.dropLast_concat_getLast _).symm⟩
    have hq' : q'.length = n := by simp at hq; exact hq
    obtain ⟨hi0, hi1⟩ := hv i' (by simp)
    obtain ⟨i, rfl⟩ := Int.eq_ofNat_of_zero_le hi0
    have hi : i < h.length := by omega
    obtain ⟨b, r', hb, hle⟩ := ih q' hq' (fun x hx => hv x (List.mem_append_left _ hx))
    have hbl := (List.getElem?_eq_some_iff.1 hb).1
    have hbb : ∃ y, (full m h b)[b]? = some y := by
      cases e : (full m h b)[b]? with
      | some y => exact ⟨y, rfl⟩
      | none =>
        have := full_stuck e (A - b)
        rw [show b + (A - b) = A by omega] at this
        rw [this] at hb
        rw [List.getElem?_eq_none_iff] at e
        rw [List.getElem?_eq_none (by omega)] at hb
        cases hb
    obtain ⟨y, hy⟩ := hbb
    have hy2 := full_get hy (A - b)
    rw [show b + (A - b) = A by omega, hb] at hy2
    cases hy2
    have o := (full_ord (m := m) (h := h) b).round hy i (by omega)
    obtain ⟨c, r, hc, hor⟩ := bstep_mem (m := m) (x := prodI h q' % m) (px := r') (S := bround m h (prodI h q' % m) r' (full m h b) i) (i := i) (k := h.getD i 0)
    have hval : prodI h q' % m * h.getD i 0 % m = prodI h (q' ++ [(i : Int)]) % m := by
      rw [prodI_snoc, emod_step]
      simp
    rw [hval] at hc hor
    have hc1 : (bround m h (prodI h q' % m) r' (full m h b) (i + 1))[c]? = some (prodI h (q' ++ [(i : Int)]) % m, r) := hc
    have hc2 : ∀ k, (bround m h (prodI h q' % m) r' (full m h b) (i + 1 + k))[c]? = some (prodI h (q' ++ [(i : Int)]) % m, r) := by
      intro k
      induction k with
      | zero => exact hc1
      | succ k ihk => exact bstep_get ihk
    have hc3 := hc2 (h.length - (i + 1))
    rw [show i + 1 + (h.length - (i + 1)) = h.length by omega, ← full_some hy] at hc3
    have hc4 := full_get hc3 (A - (b + 1))
    rw [show b + 1 + (A - (b + 1)) = A by omega] at hc4
    refine ⟨c, r, hc4, Sle.trans ?_ hle.snoc⟩
    rcases hor with k | rfl
    · exact .inl (o.upper (bround_get hy i) k (Nat.le_refl _))
    · exact .inr rfl

theorem full_at {m : Int} {h : List Int} {A c : Nat} {p : Int × List Int} (hA : (full m h A).length ≤ A) (hc : (full m h A)[c]? = some p) : (full m h c)[c]? = some p := by
  have hl := (List.getElem?_eq_some_iff.1 hc).1
  cases e : (full m h c)[c]? with
  | some y =>
    have := full_get e (A - c)
    rw [show c + (A - c) = A by omega, hc] at this
    exact this.symm
  | none =>
    have := full_stuck e (A - c)
    rw [show c + (A - c) = A by omega] at this
    rw [this] at hc
    rw [List.getElem?_eq_none_iff] at e
    rw [List.getElem?_eq_none (by omega)] at hc
    cases hc
theorem full_one {m : Int} {h : List Int} (hm : 2 ≤ m) {A b c : Nat} {x : Int} {p q : List Int} (hb : (full m h A)[b]? = some (x, p)) (hc : (full m h A)[c]? = some (x, q)) : p = q := by
  have hn := (full_binv (h := h) hm A).1
  have g1 : ((full m h A).map Prod.fst)[b]? = some x := by rw [List.getElem?_map, hb]; rfl
  have g2 : ((full m h A).map Prod.fst)[c]? = some x := by rw [List.getElem?_map, hc]; rfl
  obtain ⟨l1, g1⟩ := List.getElem?_eq_some_iff.1 g1
  obtain ⟨l2, g2⟩ := List.getElem?_eq_some_iff.1 g2
  have : b = c := (List.getElem_inj hn).1 (g1.trans g2.symm)
  subst this
  rw [hb] at hc
  cases hc
  rfl
theorem odd_mul {a b : Int} (ha : a % 2 = 1) (hb : b % 2 = 1) : a * b % 2 = 1 := by rw [Int.mul_emod, ha, hb]; rfl
theorem odd_emod {a n : Int} (ha : a % 2 = 1) : a % (2 * n) % 2 = 1 := by rw [Int.emod_emod_of_dvd _ (Int.dvd_mul_right 2 n)]; exact ha
theorem prodI_odd {h : List Int} (hh : ∀ i, i < h.length → h.getD i 0 % 2 = 1) : ∀ q, ValidP h q → prodI h q % 2 = 1
  | [], _ => rfl
  | i :: q, hv => odd_mul (hh _ (by have := hv i (by simp); omega)) (prodI_odd hh q (fun x hx => hv x (by simp [hx])))
theorem full_bound {n : Nat} {h : List Int} (hn : 1 ≤ n) (hh : ∀ i, i < h.length → h.getD i 0 % 2 = 1) (a : Nat) : (full (2 * (n : Int)) h a).length ≤ n := by
  have hm : (2 : Int) ≤ 2 * (n : Int) := by omega
  have hb := full_binv (h := h) hm a
  have ho : ∀ x, x ∈ (full (2 * (n : Int)) h a).map Prod.fst → x % 2 = 1 ∧ 0 ≤ x ∧ x < 2 * (n : Int) := by
    intro x hx
    obtain ⟨⟨y, q⟩, hp, rfl⟩ := List.mem_map.1 hx
    obtain ⟨c, hc, he⟩ := List.mem_iff_getElem.1 hp
    obtain ⟨h1, h2⟩ := full_leads (h := h) hm a c y q (by rw [List.getElem?_eq_getElem hc, he])
    refine ⟨?_, hb.2 _ hp⟩
    rw [show (y, q).1 = y from rfl, h2]
    exact odd_emod (prodI_odd hh q h1)
  have key : (((full (2 * (n : Int)) h a).map Prod.fst).map (fun x => x / 2)).length ≤ n := by
    refine nodup_bound n _ ?_ ?_
    · rw [List.nodup_iff_pairwise_ne, List.pairwise_map]
      have hnd := hb.1
      rw [List.nodup_iff_pairwise_ne] at hnd
      refine List.Pairwise.imp_of_mem ?_ hnd
      intro x y hx hy hne e
      have h1 := ho x hx
      have h2 := ho y hy
      omega
    · intro x hx
      obtain ⟨y, hy, rfl⟩ := List.mem_map.1 hx
      have := ho y hy
      omega
  simpa using key
theorem good_n {p : Par} (hg : Good p) : ∃ n : Nat, p.n = (n : Int) ∧ 4 ≤ n ∧ n ≤ 32 := by
  rcases hg.1 with h | h | h | h
  · exact ⟨4, by omega, by omega, by omega⟩
  · exact ⟨8, by omega, by omega, by omega⟩
  · exact ⟨16, by omega, by omega, by omega⟩
  · exact ⟨32, by omega, by omega, by omega⟩
/-- What a path is: it leads there; without its first step it is the path to what is left. -/
theorem path_ways {p : Par} {h : List Int} {want : Int} (ho : PathOk p h want) {l : List Int} (hr : pathR p h want = some l) :
    ValidP h l ∧ prodI h l % (2 * p.n) = want ∧ (l.length : Int) < p.n ∧ ∀ i q, l = i :: q → PathOk p h (prodI h q % (2 * p.n)) ∧ pathR p h (prodI h q % (2 * p.n)) = some q := by
  obtain ⟨n, hn, h4, h32⟩ := good_n ho.1
  have hodd : ∀ i, i < h.length → h.getD i 0 % 2 = 1 := fun i hi => (ho.2.2.2 i hi).2.2
  have hm : (2 : Int) ≤ 2 * (n : Int) := by omega
  rw [hn]
  have hr' : bfs (2 * (n : Int)) h want 65 0 (full (2 * (n : Int)) h 0) = some l := by rw [← hn]; exact hr
  obtain ⟨b, _, hb, hbl⟩ := bfs_full 65 0 l hr'
  have hA := full_bound (h := h) (n := n) (by omega) hodd 64
  have hb1 := full_bound (h := h) (n := n) (by omega) hodd b
  have hb2 := (List.getElem?_eq_some_iff.1 hbl).1
  have hbA := full_get hbl (64 - b)
  rw [show b + (64 - b) = 64 by omega] at hbA
  obtain ⟨hv, hw⟩ := full_leads (h := h) hm 64 b want l hbA
  have hlen := full_blen 64 b _ hbA
  simp only at hlen
  refine ⟨hv, hw.symm, by omega, ?_⟩
  rintro i q rfl
  have hvq : ValidP h q := fun x hx => hv x (by simp [hx])
  obtain ⟨c, r, hc, hle⟩ := full_all (h := h) hm 64 (by omega) q.length q rfl hvq
  have hcl := (List.getElem?_eq_some_iff.1 hc).1
  have hrr : pathR p h (prodI h q % (2 * (n : Int))) = some r := by
    unfold pathR
    rw [hn]
    exact bfs_finds hm 65 0 c r (by omega) (by omega) (full_at (by omega) hc)
  obtain ⟨hvr, hwr⟩ := full_leads (h := h) hm 64 c _ r hc
  have hrq : r = q := by
    rcases hle with hlt | e
    · exfalso
      have hvi : ValidP h (i :: r) := fun x hx => by
        rcases List.mem_cons.1 hx with rfl | hx
        · exact hv x (by simp)
        · exact hvr x hx
      obtain ⟨c2, r2, hc2, hle2⟩ := full_all (h := h) hm 64 (by omega) (i :: r).length (i :: r) rfl hvi
      have e : prodI h (i :: r) % (2 * (n : Int)) = want := by
        rw [hw]
        show h.getD i.toNat 0 * prodI h r % (2 * (n : Int)) = h.getD i.toNat 0 * prodI h q % (2 * (n : Int))
        rw [Int.mul_emod, ← hwr, ← Int.mul_emod]
      rw [e] at hc2
      have := full_one hm hbA hc2
      subst this
      rcases hle2 with k | k
      · exact (k.trans hlt.cons).irr
      · have : q = r := (List.cons.inj k).2
        subst this
        exact hlt.irr
    · exact e
  subst hrq
  refine ⟨⟨ho.1, ?_, ho.2.2.1, ho.2.2.2⟩, hrr⟩
  have hod := odd_emod (n := (n : Int)) (prodI_odd hodd r hvq)
  have h0 := Int.emod_nonneg (prodI h r) (show (2 * (n : Int)) ≠ 0 by omega)
  have h1 := Int.emod_lt_of_pos (prodI h r) (show (0 : Int) < 2 * (n : Int) by omega)
  rw [hn]
  exact ⟨by omega, h1, hod⟩
/-- With 3 and -1 all automorphisms are reached, by few steps. -/
def reachB (n : Nat) : Bool := (List.range n).all fun k => match bfs (2 * (n : Int)) [3, 2 * (n : Int) - 1] (2 * (k : Int) + 1) 65 0 [(1, [])] with
  | some l => decide (l.length ≤ n / 2 + 1)
  | none => false
theorem reachB_all (n : Nat) (h : n = 4 ∨ n = 8 ∨ n = 16 ∨ n = 32) : reachB n = true := by
  rcases h with rfl | rfl | rfl | rfl <;> decide +kernel
theorem all_reached {p : Par} (hg : Good p) {want : Int} (hw : IsAuto p.n want) : PathOk p [3, 2 * p.n - 1] want ∧ ∃ l, pathR p [3, 2 * p.n - 1] want = some l ∧ (l.length : Int) ≤ p.n / 2 + 1 := by
  obtain ⟨n, hn, h4, h32⟩ := good_n hg
  have hd : n = 4 ∨ n = 8 ∨ n = 16 ∨ n = 32 := by rcases hg.1 with h | h | h | h <;> omega
  refine ⟨⟨hg, hw, by simp <;> omega, fun i hi => ?_⟩, ?_⟩
  · have : i = 0 ∨ i = 1 := by simp at hi; omega
    rcases this with rfl | rfl
    · exact ⟨by simp, by simp <;> omega, by simp⟩
    · exact ⟨by simp <;> omega, by simp <;> omega, by simp <;> omega⟩
  · have ha := reachB_all n hd
    unfold reachB at ha
    rw [List.all_eq_true] at ha
    obtain ⟨w1, w2, w3⟩ := hw
    have := ha ((want / 2).toNat) (by rw [List.mem_range]; omega)
    have e : 2 * (((want / 2).toNat : Nat) : Int) + 1 = want := by omega
    rw [e] at this
    unfold pathR
    rw [hn]
    cases hb : bfs (2 * (n : Int)) [3, 2 * (n : Int) - 1] want 65 0 [(1, [])] with
    | none => rw [hb] at this; cases this
    | some l =>
      rw [hb] at this
      have := of_decide_eq_true this
      exact ⟨l, rfl, by omega⟩
end Go.Proofs.Ytoeoibcjenknmaa
