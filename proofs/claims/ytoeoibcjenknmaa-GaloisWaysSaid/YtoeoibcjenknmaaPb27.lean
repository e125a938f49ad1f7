/- GaloisWays, walked. -/
import Derived.Test.YtoeoibcjenknmaaPb26
import Derived.Test.YtoeoibcjenknmaaPb23
namespace Go.Proofs.Ytoeoibcjenknmaa
open Go.RowKit Go.Shelf

theorem take_step {l : List Int} {i : Nat} (hi : i < l.length) : l.take (i + 1) = l.take i ++ [l.getD i 0] := by
  rw [List.take_succ_eq_append_getElem hi]
  simp [List.getD_eq_getElem?_getD, hi]
theorem tail_step {l : List Int} {i : Nat} (hi : i < l.length) (h0 : 0 < i) : (l.take (i + 1)).tail = (l.take i).tail ++ [l.getD i 0] := by
  rw [take_step hi]
  cases e : l.take i with
  | nil =>
    have := congrArg List.length e
    rw [List.length_take, List.length_nil] at this
    omega
  | cons x xs => rfl
theorem RdI.tail {w : World} {b off : Nat} {x : Int} {q : List Int} (h : RdI w (some ⟨b, off, none⟩) (x :: q)) : RdI w (some ⟨b, off + 1, none⟩) q := fun k hk => ⟨b, off + 1, rfl, fun j hj => by
  obtain ⟨b', off', e, hc⟩ := h 0 (by simp)
  cases e
  have := hc (j + 1) (by simpa using hj)
  rw [show off + 1 + j = off + (j + 1) by omega, this]
  simp⟩
/-- What the loop holds. -/
def WaysI (m : Int) (h l : List Int) (i : Nat) (P R : Int) : Prop := P = prodI h (l.take i) % m ∧ R = prodI h (l.take i).tail % m
theorem WaysI.start {m : Int} (hm : 2 ≤ m) (h l : List Int) : WaysI m h l 0 1 1 := by
  have e : (1 : Int) = 1 % m := by rw [Int.emod_eq_of_lt (by omega) (by omega)]
  exact ⟨e, e⟩
theorem WaysI.step0 {m : Int} {h l : List Int} {P R : Int} (k : WaysI m h l 0 P R) (hl : 0 < l.length) (hx : 0 ≤ l.getD 0 0) : WaysI m h l 1 (P * h.getD (l.getD 0 0).toNat 0 % m) R := by
  refine ⟨?_, ?_⟩
  · rw [take_step (i := 0) hl, prodI_snoc, k.1, emod_step]
  · rw [k.2]
    cases l with
    | nil => simp at hl
    | cons x xs => rfl
theorem WaysI.step {m : Int} {h l : List Int} {i : Nat} {P R : Int} (k : WaysI m h l i P R) (hl : i < l.length) (h0 : 0 < i) : WaysI m h l (i + 1) (P * h.getD (l.getD i 0).toNat 0 % m) (R * h.getD (l.getD i 0).toNat 0 % m) := by
  refine ⟨?_, ?_⟩
  · rw [take_step hl, prodI_snoc, k.1, emod_step]
  · rw [tail_step hl h0, prodI_snoc, k.2, emod_step]
theorem emod_in {n z : Int} (h4 : 4 ≤ n) (h32 : n ≤ 32) : 0 ≤ z % (2 * n) ∧ z % (2 * n) < 64 :=
  ⟨Int.emod_nonneg _ (by omega), Int.lt_of_lt_of_le (Int.emod_lt_of_pos _ (by omega)) (by omega)⟩

set_option maxHeartbeats 12800000 in
set_option maxRecDepth 100000 in
theorem lawGW (p : Par) (ca : Option Addr) (cc : Nat) (ao : Option Addr) (hc : Nat) (h : List Int) (want : Int) (w : World) (hin : ParIn w p ca cc) (hrd : RdI w ao h) (_hno : ao = none → h = [] ∧ hc = 0) (hl1 : h.length ≤ hc) (hc1 : hc ≤ maxLen)
    (hh : ∀ i, i < h.length → -9223372036854775808 ≤ h.getD i 0 ∧ h.getD i 0 ≤ 9223372036854775807) (hw1 : -9223372036854775808 ≤ want) (hw2 : want ≤ 9223372036854775807) :
    Calls Try.prog 4 #[.agg (p.cells ca cc), .slice ao h.length hc, .int .i64 want] w fun e w' => e = .returned (.bool true) ∧ Below w.heap.size w w' := by
  have hA0 : Below w.heap.size w (w.alloc (.cells (p.cells ca cc) 25)) := (Below.refl _ w).alloc (Nat.le_refl _) _
  have HW := Lib.hid hA0
  have HBk : Hid (Blk (w.alloc (.cells (p.cells ca cc) 25)) w.heap.size 25 (p.cells ca cc)) := Lib.hid (Blk.new _ _ _)
  have HAW := Lib.hid (fun w => awake19_walk w)
  unfold maxLen at hc1
  have hlb : h.length ≤ 9223372036854775807 := by omega
  obtain ⟨hl, hhl⟩ : ∃ hl, h.length = hl := ⟨_, rfl⟩
  have HL := Lib.hid hhl
  rw [hhl] at hlb ⊢
  by_cases hlen : hl ≤ 200
  case neg =>
    have g : decide ((200 : Int) < (hl : Int)) = true := decide_eq_true (by omega)
    unfold Par.cells at HW ⊢
    clear hin hrd hh hA0 hhl
    go_enter Try.func4, Try.ntmps4
    go_wp2_with fail
    (with_reducible refine Calls.mono (HAW.out _) ?_)
    rintro e w1 ⟨rfl, hb⟩
    have HB := Lib.hid (below_step HW.out hb)
    clear hb
    go_wp2
    go_ret
    exact ⟨rfl, HB.out⟩
  have g : decide ((200 : Int) < (hl : Int)) = false := decide_eq_false (by omega)
  have HIN := Lib.hid (hin.below hA0)
  have HRD := Lib.hid (hrd.below hA0)
  have HPG := Lib.hid (fun (ao : Option Addr) (hc : Nat) (h : List Int) (want : Int) (w : World) (a : ParIn w p ca cc) (b : RdI w ao h) => gpath_walk p ca cc ao hc h want w a b)
  have HH := Lib.hid hh
  have HC := Lib.hid (r12check_walk p ca cc (w.alloc (.cells (p.cells ca cc) 25)) HIN.out)
  obtain ⟨W1, hW1⟩ : ∃ W1, w.alloc (.cells (p.cells ca cc) 25) = W1 := ⟨_, rfl⟩
  rw [hW1] at HIN HRD HW HBk HC
  by_cases hg : Good p
  case neg =>
    rw [chk_neg hg] at HC
    unfold Par.cells at hW1 HC HBk ⊢
    obtain ⟨c0, c1, c2, c3, c4, c5, c6⟩ := par_cells HBk.out
    clear hin hrd hh hA0 hhl HPG hg
    go_enter Try.func4, Try.ntmps4
    go_wp2_with fail
    (with_reducible refine Calls.mono HC.out ?_)
    rintro e w1 ⟨rfl, hb⟩
    have HB := Lib.hid (below_step HW.out hb)
    clear hb
    go_wp2_with fail
    (with_reducible refine Calls.mono (HAW.out _) ?_)
    rintro e w2 ⟨rfl, hb⟩
    have HB2 := Lib.hid (below_step HB.out hb)
    clear hb
    go_wp2
    go_ret
    exact ⟨rfl, HB2.out⟩
  rw [chk_pos hg] at HC
  have hn4 : 4 ≤ p.n := by rcases hg.1 with h | h | h | h <;> omega
  have hn32 : p.n ≤ 32 := by rcases hg.1 with h | h | h | h <;> omega
  have HA := Lib.hid (fun w => r13auto_walk p ca cc want w hn4 hn32 hw1 hw2)
  have HG := Lib.hid hg
  obtain ⟨n, hn⟩ : ∃ n, p.n = n := ⟨_, rfl⟩
  have HN := Lib.hid hn
  unfold Par.cells at hW1 HC HBk HPG HA ⊢
  rw [hn] at hW1 HC HBk HPG HA hn4 hn32 ⊢
  have HCH := Lib.hid hin.len
  obtain ⟨c0, c1, c2, c3, c4, c5, c6⟩ := par_cells HBk.out
  clear hin hrd hh hA0 hhl hg hn
  by_cases ha : IsAuto n want
  case neg =>
    rw [tr_neg ha] at HA
    clear HPG ha
    go_enter Try.func4, Try.ntmps4
    go_wp2_with fail
    (with_reducible refine Calls.mono HC.out ?_)
    rintro e w1 ⟨rfl, hb⟩
    have HB := Lib.hid (below_step HW.out hb)
    obtain ⟨d0, d1, d2, d3, d4, d5, d6⟩ := par_cells (HBk.out.below hb)
    clear hb
    go_wp2_with fail
    (with_reducible refine Calls.mono (HA.out _) ?_)
    rintro e w2 ⟨rfl, hb⟩
    have HB2 := Lib.hid (below_step HB.out hb)
    clear hb
    go_wp2_with fail
    (with_reducible refine Calls.mono (HAW.out _) ?_)
    rintro e w3 ⟨rfl, hb⟩
    have HB3 := Lib.hid (below_step HB2.out hb)
    clear hb
    go_wp2
    go_ret
    exact ⟨rfl, HB3.out⟩
  rw [tr_pos ha] at HA
  obtain ⟨hok0, l0, hr0, hl0⟩ := all_reached HG.out (want := want) (by rw [HN.out]; exact ha)
  rw [HN.out] at hok0 hr0 hl0
  have HAU := Lib.hid ha
  go_enter Try.func4, Try.ntmps4
  go_wp2_with fail
  (with_reducible refine Calls.mono HC.out ?_)
  rintro e w1 ⟨rfl, hb⟩
  have HB1 := Lib.hid (below_step HW.out hb)
  have HI1 := Lib.hid (HIN.out.below hb)
  have HR1 := Lib.hid (HRD.out.below hb)
  have HK1 := Lib.hid (HBk.out.below hb)
  obtain ⟨d0, d1, d2, d3, d4, d5, d6⟩ := par_cells HK1.out
  clear hb c0 c1 c2 c3 c4 c5 c6 HC HIN HRD HBk hW1 HW
  go_wp2_with fail
  (with_reducible refine Calls.mono (HA.out _) ?_)
  rintro e w2 ⟨rfl, hb⟩
  have HB2 := Lib.hid (below_step HB1.out hb)
  have HI2 := Lib.hid (HI1.out.below hb)
  have HR2 := Lib.hid (HR1.out.below hb)
  have HK2 := Lib.hid (HK1.out.below hb)
  obtain ⟨c0, c1, c2, c3, c4, c5, c6⟩ := par_cells HK2.out
  have hA2 : Below w2.heap.size w2 (w2.alloc (.cells #[.int .i64 3, .int .i64 (2 * n - 1)] 3)) := (Below.refl _ w2).alloc (Nat.le_refl _) _
  have hP0 := HPG.out (some ⟨w2.heap.size, 0, none⟩) 2 [3, 2 * n - 1] want (w2.alloc (.cells #[.int .i64 3, .int .i64 (2 * n - 1)] 3)) (HI2.out.below hA2) (rdI_blk (Blk.new w2 _ _)) (by simp) (fun i hi => by
    have : i = 0 ∨ i = 1 := by simp at hi; omega
    rcases this with rfl | rfl
    · simp
    · simp <;> omega) hw1 hw2
  have HP0 := Lib.hid (hP0.mono (fun e w' k => (And.intro (k.1.hit hok0 hr0) k.2)))
  obtain ⟨n0, hn0⟩ : ∃ n0, l0.length = n0 := ⟨_, rfl⟩
  rw [hn0] at HP0 hl0
  have HA2 := Lib.hid hA2
  have g1 : decide (n / 2 + 1 < (n0 : Int)) = false := decide_eq_false (by omega)
  clear hb d0 d1 d2 d3 d4 d5 d6 HI1 HR1 HK1 HB1 hA2 hP0 ha hok0 hr0 hn0 HA
  go_wp2_with fail
  (with_reducible refine Calls.mono HP0.out ?_)
  rintro e w3 ⟨⟨a3, k3, rfl, _⟩, hb⟩
  have hb3 := below_step HA2.out hb
  have HB3 := Lib.hid (below_step HB2.out hb3)
  have HI3 := Lib.hid (HI2.out.below hb3)
  have HR3 := Lib.hid (HR2.out.below hb3)
  have HK3 := Lib.hid (HK2.out.below hb3)
  obtain ⟨d0, d1, d2, d3, d4, d5, d6⟩ := par_cells HK3.out
  have hP1 := HPG.out ao hc h want w3 HI3.out HR3.out (by rw [HL.out]; exact hlen) HH.out hw1 hw2
  rw [HL.out] at hP1
  have HP1 := Lib.hid hP1
  clear hb hb3 c0 c1 c2 c3 c4 c5 c6 HI2 HR2 HK2 HB2 HA2 hP1 HP0
  go_wp2_with fail
  (with_reducible refine Calls.mono HP1.out ?_)
  rintro e w4 ⟨hend, hb⟩
  have HB4 := Lib.hid (below_step HB3.out hb)
  have HI4 := Lib.hid (HI3.out.below hb)
  have HR4 := Lib.hid (HR3.out.below hb)
  have HK4 := Lib.hid (HK3.out.below hb)
  clear hb d0 d1 d2 d3 d4 d5 d6 HI3 HR3 HK3 HB3 HP1
  rcases hend with ⟨_, rfl⟩ | ⟨_, _, rfl⟩ | ⟨l, al, cl, hok, hr, hl64, rfl, hrl, hcl⟩
  · go_wp2_with fail
    (with_reducible refine Calls.mono (HAW.out _) ?_)
    rintro e w5 ⟨rfl, hb⟩
    have HB5 := Lib.hid (below_step HB4.out hb)
    clear hb
    go_wp2
    go_ret
    exact ⟨rfl, HB5.out⟩
  · go_wp2_with fail
    (with_reducible refine Calls.mono (HAW.out _) ?_)
    rintro e w5 ⟨rfl, hb⟩
    have HB5 := Lib.hid (below_step HB4.out hb)
    clear hb
    go_wp2
    go_ret
    exact ⟨rfl, HB5.out⟩
  obtain ⟨hv, hwant, hln, hnext⟩ := path_ways hok hr
  rw [HN.out] at hwant hln hnext
  have HV := Lib.hid hv
  have HWT := Lib.hid hwant
  have HNX := Lib.hid hnext
  have HOK := Lib.hid hok
  have HRL := Lib.hid hrl
  obtain ⟨ln, hll⟩ : ∃ ln, l.length = ln := ⟨_, rfl⟩
  have HLL := Lib.hid hll
  rw [hll] at hl64 hcl hln ⊢
  clear hv hwant hnext hok hr hrl hll
  go_wp2_with fail
  go_loopg [9, 10, 11] ln (fun k v9 v10 v11 wr => ∃ (i : Nat) (P R : Int), v9 = .int .i64 P ∧ v10 = .int .i64 R ∧ v11 = .int .i64 i ∧ i ≤ ln ∧ ln - i ≤ k ∧ 0 ≤ P ∧ P < 64 ∧ 0 ≤ R ∧ R < 64 ∧ Hid (WaysI (2 * n) h l i P R) ∧ Hid (Below w4.heap.size w4 wr))
  case atStart => exact ⟨0, 1, 1, rfl, rfl, rfl, by omega, by omega, by omega, by omega, by omega, by omega, Lib.hid (WaysI.start (by omega) h l), Lib.hid (Below.refl _ _)⟩
  case round =>
    obtain ⟨i, P, R, rfl, rfl, rfl, hi, hk, hP0, hP1, hR0, hR1, HI, HB⟩ := hrel
    by_cases hlt : i < ln
    case neg =>
      obtain rfl : i = ln := by omega
      have hPw : P = want := by rw [HI.out.1, ← HWT.out, List.take_of_length_le (by rw [HLL.out]; exact Nat.le_refl _)]
      have HRR : Hid (R = prodI h l.tail % (2 * n)) := Lib.hid (by rw [HI.out.2, List.take_of_length_le (by rw [HLL.out]; exact Nat.le_refl _)])
      subst hPw
      have HBw := Lib.hid (below_step HB4.out HB.out)
      obtain ⟨c0, c1, c2, c3, c4, c5, c6⟩ := par_cells (HK4.out.below HB.out)
      by_cases hz : i = 0
      · subst hz
        clear HPG
        go_wp2_with fail
        (with_reducible refine Calls.mono (HAW.out _) ?_)
        rintro e w5 ⟨rfl, hb⟩
        have HB5 := Lib.hid (below_step HBw.out hb)
        clear hb
        go_wp2
        go_ret
        exact ⟨rfl, HB5.out⟩
      obtain ⟨x0, q, hxq⟩ : ∃ x0 q, l = x0 :: q := by
        cases l with
        | nil => have := HLL.out; simp at this; omega
        | cons x0 q => exact ⟨x0, q, rfl⟩
      have hlq : q.length + 1 = i := by have := HLL.out; rw [hxq] at this; simpa using this
      obtain ⟨hokq, hrq⟩ := HNX.out x0 q hxq
      have hRq : R = prodI h q % (2 * n) := by rw [HRR.out, hxq]; rfl
      rw [← hRq] at hokq hrq
      have hRd := (HRL.out.below HB.out)
      rw [hxq] at hRd
      obtain ⟨b, off, rfl, _⟩ := hRd 0 (by simp)
      have hP2 := HPG.out ao hc h R wr (HI4.out.below HB.out) (HR4.out.below HB.out) (by rw [HL.out]; exact hlen) HH.out (by omega) (by omega)
      rw [HL.out] at hP2
      have HP2 := Lib.hid (hP2.mono (fun e w' k => (And.intro (k.1.hit hokq hrq) k.2)))
      have HRQ := Lib.hid hRd.tail
      obtain ⟨lq, hlq'⟩ : ∃ lq, q.length = lq := ⟨_, rfl⟩
      have HLQ := Lib.hid hlq'
      rw [hlq'] at HP2 hlq
      obtain rfl : i = lq + 1 := by omega
      have h1i : (1 : Int) ≤ ((lq : Int) + 1) := by omega
      have hRq0 : cl = 1 → lq = 0 := by omega
      have HQ0 := Lib.hid hRq0
      clear hokq hrq hRq hRd hP2 hlq hlq' hxq hRq0 HI HRR HNX HWT HV
      by_cases hcl1 : cl = 1
      · obtain rfl : lq = 0 := HQ0.out hcl1
        subst hcl1
        go_wp2_with fail
        (with_reducible refine Calls.mono HP2.out ?_)
        rintro e w5 ⟨⟨a5, k5, rfl, hr5⟩, hb⟩
        have HB5 := Lib.hid (below_step HBw.out hb)
        have hs := sameInts_walk a5 (some ⟨b, off, none⟩) k5 0 q w5 (by rw [HLQ.out]; omega) hr5 (fun k hk => by rw [HLQ.out] at hk; omega)
        rw [HLQ.out] at hs
        have HS := Lib.hid hs
        clear hb hr5 hs HP2
        go_wp2_with fail
        (with_reducible refine Calls.mono HS.out ?_)
        rintro e w6 ⟨rfl, hb⟩
        have HB6 := Lib.hid (below_step HB5.out hb)
        clear hb
        go_wp2_with fail
        (with_reducible refine Calls.mono (HAW.out _) ?_)
        rintro e w7 ⟨rfl, hb⟩
        have HB7 := Lib.hid (below_step HB6.out hb)
        clear hb
        go_wp2
        go_ret
        exact ⟨rfl, HB7.out⟩
      · go_wp2_with fail
        (with_reducible refine Calls.mono HP2.out ?_)
        rintro e w5 ⟨⟨a5, k5, rfl, hr5⟩, hb⟩
        have HB5 := Lib.hid (below_step HBw.out hb)
        have hs := sameInts_walk a5 (some ⟨b, off + 1, none⟩) k5 (cl - 1) q w5 (by rw [HLQ.out]; omega) hr5 (HRQ.out.below hb)
        rw [HLQ.out] at hs
        have HS := Lib.hid hs
        clear hb hr5 hs HP2
        go_wp2_with fail
        (with_reducible refine Calls.mono HS.out ?_)
        rintro e w6 ⟨rfl, hb⟩
        have HB6 := Lib.hid (below_step HB5.out hb)
        clear hb
        go_wp2_with fail
        (with_reducible refine Calls.mono (HAW.out _) ?_)
        rintro e w7 ⟨rfl, hb⟩
        have HB7 := Lib.hid (below_step HB6.out hb)
        clear hb
        go_wp2
        go_ret
        exact ⟨rfl, HB7.out⟩
    -- a step
    obtain ⟨b, off, rfl, hcc⟩ := (HRL.out.below HB.out) i (by rw [HLL.out]; exact hlt)
    have cl0 := hcc i (by rw [HLL.out]; exact hlt)
    obtain ⟨hx0, hx1⟩ := HV.out (l.getD i 0) (by
      have hi' : i < l.length := by rw [HLL.out]; exact hlt
      rw [List.getD_eq_getElem?_getD, List.getElem?_eq_getElem hi', Option.getD_some]
      exact List.getElem_mem hi')
    rw [HL.out] at hx1
    obtain ⟨j, hj⟩ := Int.eq_ofNat_of_zero_le hx0
    rw [hj] at cl0 hx1
    have hj1 : j < hl := by omega
    obtain ⟨bh, oh, rfl, hch⟩ := (HR4.out.below HB.out) j (by rw [HL.out]; exact hj1)
    have ch := hch j (by rw [HL.out]; exact hj1)
    have hauto := HOK.out.2.2.2 j (by rw [HL.out]; exact hj1)
    rw [HN.out] at hauto
    obtain ⟨kx, hkx⟩ : ∃ kx, h.getD j 0 = kx := ⟨_, rfl⟩
    rw [hkx] at ch hauto
    have HKX : Hid (h.getD (l.getD i 0).toNat 0 = kx) := Lib.hid (by rw [hj]; exact hkx)
    obtain ⟨c0, c1, c2, c3, c4, c5, c6⟩ := par_cells (HK4.out.below HB.out)
    obtain ⟨z, hz⟩ : ∃ z, P * kx = z := ⟨_, rfl⟩
    have hzb := mul_bounds hz hP0 (by omega) (by have := hauto.1; omega) (by have := hauto.2.1; omega)
    obtain ⟨nx, hnx⟩ : ∃ nx, z % (2 * n) = nx := ⟨_, rfl⟩
    have hnx0 := emod_in (z := z) hn4 hn32
    rw [hnx] at hnx0
    obtain ⟨y, hy⟩ : ∃ y, R * kx = y := ⟨_, rfl⟩
    have hyb := mul_bounds hy hR0 (by omega) (by have := hauto.1; omega) (by have := hauto.2.1; omega)
    obtain ⟨ny, hny⟩ : ∃ ny, y % (2 * n) = ny := ⟨_, rfl⟩
    have hny0 := emod_in (z := y) hn4 hn32
    rw [hny] at hny0
    have g3 : decide (hl ≤ j) = false := decide_eq_false (by omega)
    have g4 : decide (n ≤ (i : Int)) = false := decide_eq_false (by omega)
    have i0 : (0 : Int) ≤ (i : Int) := Int.natCast_nonneg _
    have i1 : (i : Int) < (ln : Int) := by omega
    have j0 : (0 : Int) ≤ (j : Int) := Int.natCast_nonneg _
    have j1 : (j : Int) < (hl : Int) := by omega
    have HBd : Hid (∀ m, Below w4.heap.size w4 (wr.drewN m)) := Lib.hid (fun m => below_step HB.out ((Turn.refl wr []).drewN m).below)
    have HE1 : Hid (P * kx % (2 * n) = nx) := Lib.hid (by rw [hz]; exact hnx)
    have HE2 : Hid (R * kx % (2 * n) = ny) := Lib.hid (by rw [hy]; exact hny)
    clear hcc hch hj hkx hx0 hauto
    by_cases hz0 : i = 0
    · subst hz0
      have HI2 : Hid (WaysI (2 * n) h l 1 nx R) := Lib.hid (by
        have := HI.out.step0 (by rw [HLL.out]; exact hlt) (HV.out _ (by
          have hi' : 0 < l.length := by rw [HLL.out]; exact hlt
          rw [List.getD_eq_getElem?_getD, List.getElem?_eq_getElem hi', Option.getD_some]
          exact List.getElem_mem hi')).1
        rw [HKX.out, HE1.out] at this
        exact this)
      have cl1 : wr.cell? ⟨b, off, none⟩ = some (.int .i64 (j : Int)) := cl0
      clear HI cl0
      go_wp2
      go_quiet (fail)
      go_wp2
      go_roundg (ln - 1)
      case measure => omega
      case rel => exact ⟨1, nx, R, (by first | rfl | rw [hnx]), rfl, by go_num, by omega, Nat.le_refl _, by omega, by omega, by omega, by omega, HI2, Lib.hid (HBd.out _)⟩
    · have g5 : decide (0 < i) = true := decide_eq_true (by omega)
      have HI2 : Hid (WaysI (2 * n) h l (i + 1) nx ny) := Lib.hid (by
        have := HI.out.step (by rw [HLL.out]; exact hlt) (by omega)
        rw [HKX.out, HE1.out, HE2.out] at this
        exact this)
      clear HI
      go_wp2
      go_quiet (fail)
      go_wp2
      go_quiet (fail)
      go_wp2
      go_roundg (ln - (i + 1))
      case measure => omega
      case rel => exact ⟨i + 1, nx, ny, (by first | rfl | rw [hnx]), (by first | rfl | rw [hny]), by go_num, by omega, Nat.le_refl _, by omega, by omega, by omega, by omega, HI2, Lib.hid (HBd.out _)⟩
end Go.Proofs.Ytoeoibcjenknmaa
