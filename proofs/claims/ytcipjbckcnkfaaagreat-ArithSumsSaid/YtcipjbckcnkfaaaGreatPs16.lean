/- The function that fills the rows of an element of integers.
The program's multiples, and elements of integers.
The reference's element of integers. -/
import Derived.Test.YtcipjbckcnkfaaaGreatPs11
import Derived.Test.YtcipjbckcnkfaaaGreatPs14
import Derived.Test.YtcipjbckcnkfaaaGreatPs03
import Derived.Test.YtcipjbckcnkfaaaGreatPs15
set_option linter.unusedSimpArgs false
set_option linter.unusedVariables false
namespace Go.Proofs.YtcipjbckcnkfaaaGreat
open Go.RowKit Go.Shelf
attribute [local go_sem ↓] Go.wp_at_zero Go.wp_at_succ

theorem enters_fromInts1 : ∀ args w, (callFunc 96 args).run Tryz.prog w = .ok (.enter 96 args) w := enters_of Tryz.func96 (by kernel_rfl) rfl
theorem resid_cases {k : Int} {x : Nat} (hx : 0 < x) : (0 ≤ k.tmod (x : Int) ∧ k.tmod (x : Int) = (resid k x : Int)) ∨ (k.tmod (x : Int) < 0 ∧ k.tmod (x : Int) + x = (resid k x : Int)) := by
  have h := Int.mul_tdiv_add_tmod k x
  have h1 := Int.lt_tmod_of_pos k (show (0 : Int) < (x : Int) by omega)
  have h2 := Int.tmod_lt_of_pos k (show (0 : Int) < (x : Int) by omega)
  rw [resid_int hx]
  rcases Int.lt_or_le (k.tmod x) 0 with h3 | h3
  · refine .inr ⟨h3, ?_⟩
    have e : k = (k.tmod x + x) + x * (k.tdiv x - 1) := by rw [Int.mul_sub]; omega
    conv => rhs; rw [e]
    rw [Int.add_mul_emod_self_left, Int.emod_eq_of_lt (by omega) (by omega)]
  · refine .inl ⟨h3, ?_⟩
    have e : k = k.tmod x + x * k.tdiv x := by omega
    conv => rhs; rw [e]
    rw [Int.add_mul_emod_self_left, Int.emod_eq_of_lt (by omega) (by omega)]

set_option maxHeartbeats 6400000 in
set_option maxRecDepth 100000 in
theorem fromInts1_walk (bl n g i x : Nat) (l : List Int) (al : Option Addr) (cl : Nat) (w : World) (hg : RowB w g (List.replicate n 0)) (hn : n ≤ 32) (hl : l.length = n) (hx : 0 < x) (hx2 : x ≤ 2147483647)
    (hv : ∀ j, j < n → -9223372036854775808 ≤ l.getD j 0 ∧ l.getD j 0 ≤ 9223372036854775807) (hW : ∃ w0, Below w0.heap.size w0 w ∧ RdI w0 al l ∧ Blk w0 bl 38 #[.slice al n cl] ∧ w0.heap.size ≤ g) :
    Calls Tryz.prog 96 #[.int .i64 i, .int .u64 x, .slice (some ⟨g, 0, none⟩) n n, .pointer (some ⟨bl, 0, none⟩)] w fun e w' => e = .returned (.tuple #[]) ∧ RowB w' g ((List.range n).map fun j => resid (l.getD j 0) x) ∧ Turn w w' [g] := by
  obtain ⟨w0, hb0, hT0, hbn, hg0⟩ := hW
  have HR : Hid (∀ w', Turn w w' [g] → Below w0.heap.size w0 w') := Lib.hid (fun w' ht => hb0.trans (ht.belowN hb0.size (fun k hk => by simp at hk; omega)))
  have HT0 := Lib.hid hT0
  have cn : w.cell? ⟨bl, 0, none⟩ = some (.slice al n cl) := (hbn.below hb0).cell 0
  obtain ⟨f, hf⟩ : ∃ f : Nat → Nat, (fun j => resid (l.getD j 0) x) = f := ⟨_, rfl⟩
  have HF : Hid (∀ j, f j = resid (l.getD j 0) x) := Lib.hid (fun j => by rw [← hf])
  rw [hf]
  rw [← rowAt_zero n f] at hg
  have HG := Lib.hid hg
  have HV := Lib.hid hv
  have HL := Lib.hid hl
  have hv2 : IntKind.i64.wrap (x : Int) = (x : Int) := IntWalk.i64_in _ (by omega)
  have hxz : ¬ x = 0 := by omega
  clear hg hb0 hT0 hf hv hg0 hbn hl
  go_enter Tryz.func96, Tryz.ntmps96
  go_wp2
  clear cn
  go_loopg [12] n (fun fu v wr => ∃ j : Nat, v = .int .i64 j ∧ j ≤ n ∧ n - j ≤ fu ∧ Hid (RowB wr g (rowAt n f j)) ∧ Hid (Turn w wr [g]))
  case atStart => exact ⟨0, rfl, by omega, by omega, HG, Lib.hid (Turn.refl _ _)⟩
  case round =>
    obtain ⟨j, rfl, hj, hfu, HRo, HTu⟩ := hrel
    by_cases hjl : j < n
    case neg =>
      obtain rfl : j = n := by omega
      go_wp2
      refine bodyPost_end (results_none rfl _ _ _) rfl ?_
      exact ⟨rfl, by have := HRo.out; rw [rowAt_full] at this; exact this, HTu.out⟩
    obtain ⟨b1, o1, rfl, hcc⟩ := HT0.out j (by rw [HL.out]; exact hjl)
    have t1 := hcc j (by rw [HL.out]; exact hjl)
    have u1 := ((HR.out wr HTu.out).cell (World.block_lt_of_cell? w0 _ t1)).trans t1
    have hv := HV.out j hjl
    have hfj := HF.out j
    obtain ⟨k, hk⟩ : ∃ k, l.getD j 0 = k := ⟨_, rfl⟩
    rw [hk] at u1 hv hfj
    have hc := resid_cases (k := k) hx
    have hcl := resid_lt (n := k) hx
    obtain ⟨c, hce⟩ : ∃ c, resid k x = c := ⟨_, rfl⟩
    rw [hce] at hfj hc hcl
    obtain ⟨r, hr⟩ : ∃ r, k.tmod (x : Int) = r := ⟨_, rfl⟩
    rw [hr] at hc
    have j0 : (0 : Int) ≤ (j : Int) := Int.natCast_nonneg _
    have j1 : (j : Int) < (n : Int) := by omega
    have cg := HRo.out.cellAt hjl
    have fg : wr.frozen? ⟨g, j, none⟩ = false := Blk.free HRo.out j
    have HRs : Hid (RowB (wr.setCell ⟨g, j, none⟩ (.int .u32 (c : Int))) g (rowAt n f (j + 1))) := Lib.hid (by rw [← hfj]; exact RowB.step HRo.out hjl)
    have HTs : Hid (Turn w (wr.setCell ⟨g, j, none⟩ (.int .u32 (c : Int))) [g]) := Lib.hid (HTu.out.setCell (p := ⟨g, j, none⟩) (.inl (by simp)) _)
    have hw3 : IntKind.u32.wrap (c : Int) = (c : Int) := IntWalk.u32_in _ (by omega)
    clear t1 hcc hk hce hfj
    rcases hc with ⟨hc1, rfl⟩ | ⟨hc1, hc2⟩
    · have hg0 : decide ((c : Int) < 0) = false := decide_eq_false (by omega)
      have hw1 : IntKind.i64.wrap (c : Int) = (c : Int) := IntWalk.i64_in _ (by omega)
      go_wp2
      all_goals (
        go_roundg (n - (j + 1))
        case measure => omega
        case rel => exact ⟨j + 1, by go_num, by omega, Nat.le_refl _, HRs, HTs⟩)
    · have hg0 : decide (r < 0) = true := decide_eq_true hc1
      have hw1 : IntKind.i64.wrap r = r := IntWalk.i64_in _ (by omega)
      have hw2 : IntKind.i64.wrap (c : Int) = (c : Int) := IntWalk.i64_in _ (by omega)
      go_wp2
      all_goals (
        go_roundg (n - (j + 1))
        case measure => omega
        case rel => exact ⟨j + 1, by go_num, by omega, Nat.le_refl _, HRs, HTs⟩)
end Go.Proofs.YtcipjbckcnkfaaaGreat

namespace Go.Proofs.YtcipjbckcnkfaaaGreat
open Go.RowKit Go.Shelf

/-- A multiple. -/
def scaleEl (p : Par) (A : El) (k : Int) : El := ⟨A.level, A.special, mkRows (p.qs A.level A.special).length p.n.toNat (fun i j => A.get i j * resid k ((p.qs A.level A.special).getD i 0) % (p.qs A.level A.special).getD i 0)⟩
/-- The element of integers. -/
def ofEl (p : Par) (level : Int) (sp : Bool) (l : List Int) : El := ⟨level, sp, mkRows (p.qs level sp).length p.n.toNat (fun i j => resid (l.getD j 0) ((p.qs level sp).getD i 0))⟩
theorem fills_mulInt {w : World} {bn ba lv m n : Nat} {k : Int} {sp : Bool} {A : El} {aa : Option Addr} {cA : Nat} (hT : OneAt w ba lv m n sp A aa cA) (hB : Blk w bn 2 #[.int .i64 k]) (hn : n ≤ 32) {qf : Nat → Nat} (hq : ∀ i, i < m → 0 < qf i ∧ qf i ≤ 2147483647) (hk1 : -9223372036854775808 ≤ k) (hk2 : k ≤ 9223372036854775807)
    (hv : ∀ i, i < m → ∀ j, j < n → A.get i j < qf i) : Fills w 91 #[.pointer (some ⟨bn, 0, none⟩), .pointer (some ⟨ba, 0, none⟩)] m n qf (fun i j => A.get i j * resid k (qf i) % qf i) :=
  fun i g wr hi hb hg hr => mulInt1_walk bn ba lv m n g i (qf i) k sp A aa cA wr hr hn hi (hq i hi).1 (hq i hi).2 hk1 hk2 (hv i hi) ⟨w, hb, hT, hB, hg⟩
theorem fills_fromInts {w : World} {bl m n : Nat} {l : List Int} {al : Option Addr} {cl : Nat} (hR : RdI w al l) (hB : Blk w bl 38 #[.slice al n cl]) (hn : n ≤ 32) (hl : l.length = n) {qf : Nat → Nat} (hq : ∀ i, i < m → 0 < qf i ∧ qf i ≤ 2147483647)
    (hv : ∀ j, j < n → -9223372036854775808 ≤ l.getD j 0 ∧ l.getD j 0 ≤ 9223372036854775807) : Fills w 96 #[.pointer (some ⟨bl, 0, none⟩)] m n qf (fun i j => resid (l.getD j 0) (qf i)) :=
  fun i g wr hi hb hg hr => fromInts1_walk bl n g i (qf i) l al cl wr hr hn hl (hq i hi).1 (hq i hi).2 hv ⟨w, hb, hR, hB, hg⟩
/-- A valid place: its numbers. -/
theorem PlaceOk.shape {p : Par} {level : Int} {sp : Bool} (hg : Good p) (h : PlaceOk p level sp) : ∃ lv m n : Nat, level = lv ∧ p.n = (n : Int) ∧ (p.qs level sp).length = m ∧ 1 ≤ lv ∧ lv ≤ p.chain.length ∧ 0 < n ∧ n ≤ 32 ∧ (sp = false → m = lv) ∧ (sp = true → m = lv + 1) ∧ m ≤ 25 ∧ (∀ i, i < m → 0 < (p.qs level sp).getD i 0 ∧ (p.qs level sp).getD i 0 ≤ 2147483647) := by
  have h1 := h.1
  have h2 := h.2.1
  obtain ⟨lv, hlv⟩ := Int.eq_ofNat_of_zero_le (show 0 ≤ level by omega)
  obtain ⟨n, hn⟩ := Int.eq_ofNat_of_zero_le (show 0 ≤ p.n by have := hg.n; omega)
  have hn4 := hg.n
  have h24 := hg.len
  have hq := qs_len h
  refine ⟨lv, (p.qs level sp).length, n, hlv, hn, rfl, by omega, by omega, by omega, by omega, fun e => ?_, fun e => ?_, ?_, fun i hi => ?_⟩
  · rw [e] at hq ⊢; simp at hq; omega
  · rw [e] at hq ⊢; simp at hq; omega
  · cases sp <;> simp at hq <;> omega
  · have := hg.qs (level := level) (sp := sp) (i := i) (by omega)
    omega

set_option maxHeartbeats 6400000 in
theorem rgMulInt_walk (p : Par) (ca : Option Addr) (cc : Nat) (A : El) (aa : Option Addr) (cA : Nat) (k : Int) (w : World) (hin : ParIn w p ca cc) (hg : Good p) (hA : ElOk p A) (hra : RdR w aa A.rows) (hk1 : -9223372036854775808 ≤ k) (hk2 : k ≤ 9223372036854775807) :
    Calls Tryz.prog 60 #[.agg (p.cells ca cc), A.val aa cA, .int .i64 k] w fun e w' => PutEl w.heap.size (scaleEl p A k) e w' ∧ Below w.heap.size w w' := by
  obtain ⟨b, off, rfl, _⟩ := hin.rd 0 (by have := hg.len; omega)
  obtain ⟨lv, m, n, hlv, hpn, hqm, hlv1, hlv2, hn0, hn32, hs0, hs1, hm25, hqb⟩ := hA.1.shape hg
  have hma : A.rows.length = m := by rw [hA.2.1, hqm]
  have hna : ∀ i, i < m → (A.row i).length = n := fun i hi => by have := (hA.2.2 i (by omega)).1; omega
  have hval : ∀ i, i < m → ∀ j, j < n → A.get i j < (p.qs A.level A.special).getD i 0 := fun i hi j hj => (hA.2.2 i (by omega)).2 j (by rw [hna i hi]; exact hj)
  have H1 : Hid (∀ w', Below w.heap.size w w' → Calls Tryz.prog 90 #[.agg (p.cells (some ⟨b, off, none⟩) cc), A.val aa cA] w' fun e w2 => e = .returned (.int .i64 0) ∧ Below w'.heap.size w' w2) := Lib.hid (fun w' hb => by
    have h2 := rgCheck_walk p (some ⟨b, off, none⟩) cc A aa cA w' (hin.below hb) hg (hg.elIn hA (hra.below hb))
    rw [chk_pos hA] at h2
    exact h2)
  obtain ⟨qf, hqf⟩ : ∃ qf : Nat → Nat, (fun i => (p.qs A.level A.special).getD i 0) = qf := ⟨_, rfl⟩
  have hqf' : ∀ i, (p.qs A.level A.special).getD i 0 = qf i := fun i => by rw [← hqf]
  have hrows : (scaleEl p A k).rows = mkRows m n (fun i j => A.get i j * resid k (qf i) % qf i) := by
    show mkRows _ _ _ = _
    rw [hqm, hpn, Int.toNat_natCast]
    exact mkRows_congr (fun i hi j hj => by rw [hqf'])
  obtain ⟨F, hF⟩ : ∃ F : Nat → Nat → Nat, (fun i j => A.get i j * resid k (qf i) % qf i) = F := ⟨_, rfl⟩
  have H2 : Hid (∀ w', Below w.heap.size w w' → Blk w' w.heap.size 25 (p.cells (some ⟨b, off, none⟩) cc) → Blk w' (w.heap.size + 1) 54 #[.int .i64 lv, .bool A.special, .slice aa m cA] → Blk w' (w.heap.size + 1 + 1) 2 #[.int .i64 k] → Calls Tryz.prog 71 #[.pointer (some ⟨w.heap.size, 0, none⟩), .int .i64 lv, .bool A.special, .func (.func 91) #[] #[.pointer (some ⟨w.heap.size + 1 + 1, 0, none⟩), .pointer (some ⟨w.heap.size + 1, 0, none⟩)]] w'
      fun e w2 => ∃ ao c, e = .returned (.agg #[.int .i64 lv, .bool A.special, .slice ao m c]) ∧ OwR w2 w'.heap.size (.slice ao m c) (mkRows m n F) ∧ Below w'.heap.size w' w2) := Lib.hid (fun w' hb h1 h2 h3 => by
    refine each_walk w.heap.size b off lv cc A.special p _ _ n m qf F w' (hin.below hb) h1 hpn hn32 hlv1 hlv2 hg.len.2 hs0 hs1 (fun j hj => by rw [← hqf', qs_low hlv hlv2 hj]) (fun h => by rw [← hqf', qs_top hlv hlv2 h]) (fun i hi => by have := (hqb i hi).2; rw [hqf'] at this; omega) enters_mulInt1 ?_
    rw [← hF]
    exact fills_mulInt ⟨h2, hra.below hb, hma, hna⟩ h3 hn32 (fun i hi => by rw [← hqf']; exact hqb i hi) hk1 hk2 (fun i hi j hj => by rw [← hqf']; exact hval i hi j hj))
  have HR := Lib.hid hrows
  obtain ⟨sp, hsp⟩ : ∃ sp, A.special = sp := ⟨_, rfl⟩
  have hEl : (scaleEl p A k).level = A.level := rfl
  have hEs : (scaleEl p A k).special = A.special := rfl
  obtain ⟨E, hE⟩ : ∃ E, scaleEl p A k = E := ⟨_, rfl⟩
  rw [hE] at HR hEl hEs ⊢
  rw [hF] at HR
  rw [hlv] at hEl
  rw [hsp] at hEs
  have HEl := Lib.hid hEl
  have HEs := Lib.hid hEs
  unfold El.val Par.cells at *
  rw [hlv, hsp, hma] at H1 ⊢
  rw [hsp] at H2
  clear hin hg hA hra hlv hsp hma hpn hqm hs0 hs1 hna hval hqb hqf hqf' hrows hF hEl hEs hE
  go_enter Tryz.func60, Tryz.ntmps60
  go_wp2_with fail
  (with_reducible refine Calls.mono (H1.out _ (by with_reducible (repeat first | exact bR _ _ | assumption | exact ho (by assumption) | refine bD ?_ | refine bN ?_ _ | refine bA ?_ ?_ _ | refine bS ?_ ?_ _) <;> (first | omega | (simp <;> omega)))) ?_)
  rintro e w2 ⟨rfl, hb⟩
  obtain ⟨hc_w2, hf_w2⟩ := bcell hb
  have HB_w2 : Hid (Below w.heap.size w w2) := Lib.hid (below_step (by with_reducible (repeat first | exact bR _ _ | assumption | exact ho (by assumption) | refine bD ?_ | refine bN ?_ _ | refine bA ?_ ?_ _ | refine bS ?_ ?_ _) <;> (first | omega | (simp <;> omega))) hb)
  have hs_w2 := hb.size
  try simp only [World.size_alloc, sz_set, sz_drew, sz_drewN] at hs_w2
  have q0_w2 : w.heap.size < w2.heap.size := by omega
  have q1_w2 : w.heap.size + 1 < w2.heap.size := by omega
  have q2_w2 : w.heap.size + 1 + 1 < w2.heap.size := by omega
  have q3_w2 : w.heap.size + 1 + 1 + 1 < w2.heap.size := by omega
  have HK_w2 := Lib.hid hb
  clear hb
  go_wp2_with fail
  (with_reducible refine Calls.mono (H2.out _ (by with_reducible (repeat first | exact bR _ _ | assumption | exact ho (by assumption) | refine bD ?_ | refine bN ?_ _ | refine bA ?_ ?_ _ | refine bS ?_ ?_ _) <;> (first | omega | (simp <;> omega))) (by repeat (first | exact Blk.newAt (by (first | omega | (simp only [World.size_alloc, sz_set, sz_drew, sz_drewN]; done) | (simp only [World.size_alloc, sz_set, sz_drew, sz_drewN]; omega))) | (with_reducible refine Blk.alloc ?_ _) | (with_reducible refine Blk.drew ?_) | (with_reducible refine Blk.drewN ?_ _) | (with_reducible refine Blk.belowB ?_ (Hid.out (by assumption)) ?szk; case szk => (first | omega | (simp only [World.size_alloc, sz_set, sz_drew, sz_drewN]; done) | (simp only [World.size_alloc, sz_set, sz_drew, sz_drewN]; omega))))) (by repeat (first | exact Blk.newAt (by (first | omega | (simp only [World.size_alloc, sz_set, sz_drew, sz_drewN]; done) | (simp only [World.size_alloc, sz_set, sz_drew, sz_drewN]; omega))) | (with_reducible refine Blk.alloc ?_ _) | (with_reducible refine Blk.drew ?_) | (with_reducible refine Blk.drewN ?_ _) | (with_reducible refine Blk.belowB ?_ (Hid.out (by assumption)) ?szk; case szk => (first | omega | (simp only [World.size_alloc, sz_set, sz_drew, sz_drewN]; done) | (simp only [World.size_alloc, sz_set, sz_drew, sz_drewN]; omega))))) (by repeat (first | exact Blk.newAt (by (first | omega | (simp only [World.size_alloc, sz_set, sz_drew, sz_drewN]; done) | (simp only [World.size_alloc, sz_set, sz_drew, sz_drewN]; omega))) | (with_reducible refine Blk.alloc ?_ _) | (with_reducible refine Blk.drew ?_) | (with_reducible refine Blk.drewN ?_ _) | (with_reducible refine Blk.belowB ?_ (Hid.out (by assumption)) ?szk; case szk => (first | omega | (simp only [World.size_alloc, sz_set, sz_drew, sz_drewN]; done) | (simp only [World.size_alloc, sz_set, sz_drew, sz_drewN]; omega)))))) ?_)
  rintro e w3 ⟨ao, c, rfl, hO, hb⟩
  have HO := Lib.hid hO
  clear hO
  obtain ⟨hc_w3, hf_w3⟩ := bcell hb
  have HB_w3 : Hid (Below w.heap.size w w3) := Lib.hid (below_step (by with_reducible (repeat first | exact bR _ _ | assumption | exact ho (by assumption) | refine bD ?_ | refine bN ?_ _ | refine bA ?_ ?_ _ | refine bS ?_ ?_ _) <;> (first | omega | (simp <;> omega))) hb)
  have hs_w3 := hb.size
  try simp only [World.size_alloc, sz_set, sz_drew, sz_drewN] at hs_w3
  have q0_w3 : w.heap.size < w3.heap.size := by omega
  have q1_w3 : w.heap.size + 1 < w3.heap.size := by omega
  have q2_w3 : w.heap.size + 1 + 1 < w3.heap.size := by omega
  have q3_w3 : w.heap.size + 1 + 1 + 1 < w3.heap.size := by omega
  have HK_w3 := Lib.hid hb
  clear hb
  go_wp2
  refine bodyPost_ret (v := .tuple #[.agg #[.int .i64 lv, .bool sp, .slice ao m c], .int .i64 0]) (by simp [results, Tryz.results60, go_sem, hc_w3, hc_w2, q3_w2, q3_w3]) rfl ⟨⟨ao, c, ?_, ?_⟩, (by with_reducible (repeat first | exact bR _ _ | assumption | exact ho (by assumption) | refine bD ?_ | refine bN ?_ _ | refine bA ?_ ?_ _ | refine bS ?_ ?_ _) <;> (first | omega | (simp <;> omega)))⟩
  · unfold El.val; rw [HEl.out, HEs.out, HR.out, mkRows_len]
  · rw [HR.out, mkRows_len]
    exact (HO.out.turn (S := [w.heap.size + 1 + 1 + 1]) ((((Turn.refl w3 [w.heap.size + 1 + 1 + 1]).setCell (p := ⟨w.heap.size + 1 + 1 + 1, 0, none⟩) (.inl (by simp)) _).setCell (p := ⟨w.heap.size + 1 + 1 + 1, 1, none⟩) (.inl (by simp)) _).setCell (p := ⟨w.heap.size + 1 + 1 + 1, 2, none⟩) (.inl (by simp)) _) (fun x hx => by simp at hx; omega)).mono (by omega)

set_option maxHeartbeats 6400000 in
theorem rgFromInts_walk (p : Par) (ca : Option Addr) (cc : Nat) (level : Int) (sp : Bool) (l : List Int) (al : Option Addr) (cl : Nat) (w : World) (hin : ParIn w p ca cc) (hg : Good p) (hpl : PlaceOk p level sp) (hll : (l.length : Int) = p.n) (hlv : ∀ j, j < l.length → -9223372036854775808 ≤ l.getD j 0 ∧ l.getD j 0 ≤ 9223372036854775807) (hrd : RdI w al l) :
    Calls Tryz.prog 66 #[.agg (p.cells ca cc), .int .i64 level, .bool sp, .slice al l.length cl] w fun e w' => PutEl w.heap.size (ofEl p level sp l) e w' ∧ Below w.heap.size w w' := by
  obtain ⟨b, off, rfl, _⟩ := hin.rd 0 (by have := hg.len; omega)
  obtain ⟨lv, m, n, rfl, hpn, hqm, hlv1, hlv2, hn0, hn32, hs0, hs1, hm25, hqb⟩ := hpl.shape hg
  have hln : l.length = n := by omega
  have H1 : Hid (∀ w', Below w.heap.size w w' → Blk w' w.heap.size 25 (p.cells (some ⟨b, off, none⟩) cc) → Calls Tryz.prog 94 #[.pointer (some ⟨w.heap.size, 0, none⟩)] w' fun e w2 => e = .returned (.bool true) ∧ Below w'.heap.size w' w2) := Lib.hid (fun w' hb hP => (rgvalid_walk w.heap.size p (some ⟨b, off, none⟩) cc w' hP (hin.below hb) hg).mono (fun e w2 h => ⟨h.1, h.2.below⟩))
  have H1b : Hid (∀ w', Blk w' w.heap.size 25 (p.cells (some ⟨b, off, none⟩) cc) → Calls Tryz.prog 95 #[.pointer (some ⟨w.heap.size, 0, none⟩), .int .i64 lv, .bool sp] w' fun e w2 => e = .returned (.bool true) ∧ w' = w2) := Lib.hid (fun w' hP => by
    have := rgplace_walk w.heap.size p (some ⟨b, off, none⟩) cc lv sp w' hP hg
    rw [tr_pos hpl] at this
    exact this)
  obtain ⟨qf, hqf⟩ : ∃ qf : Nat → Nat, (fun i => (p.qs lv sp).getD i 0) = qf := ⟨_, rfl⟩
  have hqf' : ∀ i, (p.qs lv sp).getD i 0 = qf i := fun i => by rw [← hqf]
  have hrows : (ofEl p lv sp l).rows = mkRows m n (fun i j => resid (l.getD j 0) (qf i)) := by
    show mkRows _ _ _ = _
    rw [hqm, hpn, Int.toNat_natCast]
    exact mkRows_congr (fun i hi j hj => by rw [hqf'])
  obtain ⟨F, hF⟩ : ∃ F : Nat → Nat → Nat, (fun i j => resid (l.getD j 0) (qf i)) = F := ⟨_, rfl⟩
  have H2 : Hid (∀ w', Below w.heap.size w w' → Blk w' w.heap.size 25 (p.cells (some ⟨b, off, none⟩) cc) → Blk w' (w.heap.size + 1) 38 #[.slice al n cl] → Calls Tryz.prog 71 #[.pointer (some ⟨w.heap.size, 0, none⟩), .int .i64 lv, .bool sp, .func (.func 96) #[] #[.pointer (some ⟨w.heap.size + 1, 0, none⟩)]] w'
      fun e w2 => ∃ ao c, e = .returned (.agg #[.int .i64 lv, .bool sp, .slice ao m c]) ∧ OwR w2 w'.heap.size (.slice ao m c) (mkRows m n F) ∧ Below w'.heap.size w' w2) := Lib.hid (fun w' hb h1 h2 => by
    refine each_walk w.heap.size b off lv cc sp p _ _ n m qf F w' (hin.below hb) h1 hpn hn32 hlv1 hlv2 hg.len.2 hs0 hs1 (fun j hj => by rw [← hqf', qs_low rfl hlv2 hj]) (fun h => by rw [← hqf', qs_top rfl hlv2 h]) (fun i hi => by have := (hqb i hi).2; rw [hqf'] at this; omega) enters_fromInts1 ?_
    rw [← hF]
    exact fills_fromInts (hrd.below hb) h2 hn32 hln (fun i hi => by rw [← hqf']; exact hqb i hi) (fun j hj => hlv j (by omega)))
  have HR := Lib.hid hrows
  have hEl : (ofEl p lv sp l).level = lv := rfl
  have hEs : (ofEl p lv sp l).special = sp := rfl
  obtain ⟨E, hE⟩ : ∃ E, ofEl p lv sp l = E := ⟨_, rfl⟩
  rw [hE] at HR hEl hEs ⊢
  rw [hF] at HR
  have HEl := Lib.hid hEl
  have HEs := Lib.hid hEs
  have hlen : ((l.length : Int) != p.n) = false := by rw [hll]; simp
  unfold Par.cells at *
  rw [hln] at hlen ⊢
  clear hin hg hpl hll hln hlv hrd hpn hqm hs0 hs1 hqb hqf hqf' hrows hF hEl hEs hE
  go_enter Tryz.func66, Tryz.ntmps66
  go_wp2_with fail
  (with_reducible refine Calls.mono (H1.out _ (by with_reducible (repeat first | exact bR _ _ | assumption | exact ho (by assumption) | refine bD ?_ | refine bN ?_ _ | refine bA ?_ ?_ _ | refine bS ?_ ?_ _) <;> (first | omega | (simp <;> omega))) (by repeat (first | exact Blk.newAt (by (first | omega | (simp only [World.size_alloc, sz_set, sz_drew, sz_drewN]; done) | (simp only [World.size_alloc, sz_set, sz_drew, sz_drewN]; omega))) | (with_reducible refine Blk.alloc ?_ _) | (with_reducible refine Blk.drew ?_) | (with_reducible refine Blk.drewN ?_ _) | (with_reducible refine Blk.belowB ?_ (Hid.out (by assumption)) ?szk; case szk => (first | omega | (simp only [World.size_alloc, sz_set, sz_drew, sz_drewN]; done) | (simp only [World.size_alloc, sz_set, sz_drew, sz_drewN]; omega)))))) ?_)
  rintro e w2 ⟨rfl, hb⟩
  obtain ⟨hc_w2, hf_w2⟩ := bcell hb
  have HB_w2 : Hid (Below w.heap.size w w2) := Lib.hid (below_step (by with_reducible (repeat first | exact bR _ _ | assumption | exact ho (by assumption) | refine bD ?_ | refine bN ?_ _ | refine bA ?_ ?_ _ | refine bS ?_ ?_ _) <;> (first | omega | (simp <;> omega))) hb)
  have hs_w2 := hb.size
  try simp only [World.size_alloc, sz_set, sz_drew, sz_drewN] at hs_w2
  have q0_w2 : w.heap.size < w2.heap.size := by omega
  have q1_w2 : w.heap.size + 1 < w2.heap.size := by omega
  have q2_w2 : w.heap.size + 1 + 1 < w2.heap.size := by omega
  have HK_w2 := Lib.hid hb
  clear hb
  go_wp2_with fail
  (with_reducible refine Calls.mono (H1b.out _ (by repeat (first | exact Blk.newAt (by (first | omega | (simp only [World.size_alloc, sz_set, sz_drew, sz_drewN]; done) | (simp only [World.size_alloc, sz_set, sz_drew, sz_drewN]; omega))) | (with_reducible refine Blk.alloc ?_ _) | (with_reducible refine Blk.drew ?_) | (with_reducible refine Blk.drewN ?_ _) | (with_reducible refine Blk.belowB ?_ (Hid.out (by assumption)) ?szk; case szk => (first | omega | (simp only [World.size_alloc, sz_set, sz_drew, sz_drewN]; done) | (simp only [World.size_alloc, sz_set, sz_drew, sz_drewN]; omega)))))) ?_)
  rintro e w' ⟨rfl, rfl⟩
  go_wp2_with fail
  (with_reducible refine Calls.mono (H2.out _ (by with_reducible (repeat first | exact bR _ _ | assumption | exact ho (by assumption) | refine bD ?_ | refine bN ?_ _ | refine bA ?_ ?_ _ | refine bS ?_ ?_ _) <;> (first | omega | (simp <;> omega))) (by repeat (first | exact Blk.newAt (by (first | omega | (simp only [World.size_alloc, sz_set, sz_drew, sz_drewN]; done) | (simp only [World.size_alloc, sz_set, sz_drew, sz_drewN]; omega))) | (with_reducible refine Blk.alloc ?_ _) | (with_reducible refine Blk.drew ?_) | (with_reducible refine Blk.drewN ?_ _) | (with_reducible refine Blk.belowB ?_ (Hid.out (by assumption)) ?szk; case szk => (first | omega | (simp only [World.size_alloc, sz_set, sz_drew, sz_drewN]; done) | (simp only [World.size_alloc, sz_set, sz_drew, sz_drewN]; omega))))) (by repeat (first | exact Blk.newAt (by (first | omega | (simp only [World.size_alloc, sz_set, sz_drew, sz_drewN]; done) | (simp only [World.size_alloc, sz_set, sz_drew, sz_drewN]; omega))) | (with_reducible refine Blk.alloc ?_ _) | (with_reducible refine Blk.drew ?_) | (with_reducible refine Blk.drewN ?_ _) | (with_reducible refine Blk.belowB ?_ (Hid.out (by assumption)) ?szk; case szk => (first | omega | (simp only [World.size_alloc, sz_set, sz_drew, sz_drewN]; done) | (simp only [World.size_alloc, sz_set, sz_drew, sz_drewN]; omega)))))) ?_)
  rintro e w3 ⟨ao, c, rfl, hO, hb⟩
  have HO := Lib.hid hO
  clear hO
  obtain ⟨hc_w3, hf_w3⟩ := bcell hb
  have HB_w3 : Hid (Below w.heap.size w w3) := Lib.hid (below_step (by with_reducible (repeat first | exact bR _ _ | assumption | exact ho (by assumption) | refine bD ?_ | refine bN ?_ _ | refine bA ?_ ?_ _ | refine bS ?_ ?_ _) <;> (first | omega | (simp <;> omega))) hb)
  have hs_w3 := hb.size
  try simp only [World.size_alloc, sz_set, sz_drew, sz_drewN] at hs_w3
  have q0_w3 : w.heap.size < w3.heap.size := by omega
  have q1_w3 : w.heap.size + 1 < w3.heap.size := by omega
  have q2_w3 : w.heap.size + 1 + 1 < w3.heap.size := by omega
  have HK_w3 := Lib.hid hb
  clear hb
  go_wp2
  refine bodyPost_ret (v := .tuple #[.agg #[.int .i64 lv, .bool sp, .slice ao m c], .int .i64 0]) (by simp [results, Tryz.results66, go_sem, hc_w3, hc_w2, q2_w2, q2_w3]) rfl ⟨⟨ao, c, ?_, ?_⟩, (by with_reducible (repeat first | exact bR _ _ | assumption | exact ho (by assumption) | refine bD ?_ | refine bN ?_ _ | refine bA ?_ ?_ _ | refine bS ?_ ?_ _) <;> (first | omega | (simp <;> omega)))⟩
  · unfold El.val; rw [HEl.out, HEs.out, HR.out, mkRows_len]
  · rw [HR.out, mkRows_len]
    exact (HO.out.turn (S := [w.heap.size + 1 + 1]) ((((Turn.refl w3 [w.heap.size + 1 + 1]).setCell (p := ⟨w.heap.size + 1 + 1, 0, none⟩) (.inl (by simp)) _).setCell (p := ⟨w.heap.size + 1 + 1, 1, none⟩) (.inl (by simp)) _).setCell (p := ⟨w.heap.size + 1 + 1, 2, none⟩) (.inl (by simp)) _) (fun x hx => by simp at hx; omega)).mono (by omega)
end Go.Proofs.YtcipjbckcnkfaaaGreat

namespace Go.Proofs.YtcipjbckcnkfaaaGreat
open Go.RowKit
attribute [local go_sem ↓] Go.wp_at_zero Go.wp_at_succ

/-- A result of the reference's that stays: rows that nothing turns. -/
def GiveEl (base : Nat) (E : El) (v : Value) (w' : World) : Prop := ∃ ao c, v = E.val ao c ∧ RdRN w' base ao E.rows ∧ E.rows.length ≤ c ∧ c ≤ 9223372036854775807

set_option maxHeartbeats 6400000 in
set_option maxRecDepth 100000 in
theorem r09FromInts_walk (p : Par) (ca : Option Addr) (cc : Nat) (level : Int) (sp : Bool) (l : List Int) (al : Option Addr) (cl : Nat) (w : World) (hin : ParIn w p ca cc) (hg : Good p) (hpl : PlaceOk p level sp) (hll : (l.length : Int) = p.n) (hlv : ∀ j, j < l.length → -9223372036854775808 ≤ l.getD j 0 ∧ l.getD j 0 ≤ 9223372036854775807) (hrd : RdI w al l) :
    Calls Tryz.prog 105 #[.agg (p.cells ca cc), .int .i64 level, .bool sp, .slice al l.length cl] w fun e w' => (∃ v, e = .returned (.tuple #[v, .int .i64 0]) ∧ GiveEl w.heap.size (ofEl p level sp l) v w') ∧ Below w.heap.size w w' := by
  obtain ⟨lv, m, N, rfl, hpn, hqm, hlv1, hlv2, hn0, hn32, hs0, hs1, hm25, hqb⟩ := hpl.shape hg
  have hln : l.length = N := by omega
  have H1 := Lib.hid (fun (w' : World) (hb : Below w.heap.size w w') => r09Valid_walk p ca cc w' (hin.below hb) hg)
  have H2 : Hid (∀ w', Below w.heap.size w w' → Calls Tryz.prog 85 #[.agg (p.cells ca cc), .int .i64 lv, .bool sp] w' fun e w2 => e = .returned (.bool true) ∧ Below w'.heap.size w' w2) := Lib.hid (fun w' hb => by
    have := r09place_walk p ca cc lv sp w' (hin.below hb) hg
    rw [tr_pos hpl] at this
    exact this)
  have H3 := Lib.hid (fun (w' : World) (hb : Below w.heap.size w w') => r09Moduli_walk p ca cc lv sp w' (hin.below hb) hg hpl)
  obtain ⟨q, hq⟩ : ∃ q, p.qs lv sp = q := ⟨_, rfl⟩
  rw [hq] at hqm hqb H3
  rw [hqm] at H3
  have HE : Hid (ofEl p lv sp l = ⟨lv, sp, mkRows m N (fun i j => resid (l.getD j 0) (q.getD i 0))⟩) := Lib.hid (by unfold ofEl; rw [hq, hqm, hpn]; rfl)
  obtain ⟨f, hf⟩ : ∃ f : Nat → Nat → Nat, (fun i j => resid (l.getD j 0) (q.getD i 0)) = f := ⟨_, rfl⟩
  have HF : Hid (∀ i j, f i j = resid (l.getD j 0) (q.getD i 0)) := Lib.hid (fun i j => by rw [← hf])
  rw [hf] at HE
  have HRES := Lib.hid (fun (i j : Nat) (hi : i < m) (hj : j < N) (w : World) => r09residue_walk (l.getD j 0) (q.getD i 0) w (hqb i hi).1 (hqb i hi).2 (hlv j (by omega)).1 (hlv j (by omega)).2)
  have HRD := Lib.hid hrd
  have HLN := Lib.hid hln
  have HQL := Lib.hid hqm
  have HQB := Lib.hid hqb
  have hlen : ((l.length : Int) != p.n) = false := by rw [hll]; simp
  unfold Par.cells at *
  rw [hpn] at H1 H2 H3 hlen ⊢
  rw [hln] at hlen ⊢
  clear hin hg hpl hll hln hlv hrd hpn hqm hs0 hs1 hqb hf hq
  go_enter Tryz.func105, Tryz.ntmps105
  go_wp2_with fail
  (with_reducible refine Calls.mono (H1.out _ (by with_reducible (repeat first | exact bR _ _ | assumption | exact ho (by assumption) | refine bD ?_ | refine bN ?_ _ | refine bA ?_ ?_ _ | refine bS ?_ ?_ _) <;> (first | omega | (simp <;> omega)))) ?_)
  rintro e w1 ⟨rfl, hb⟩
  obtain ⟨hc_w1, hf_w1⟩ := bcell hb
  have HB_w1 : Hid (Below w.heap.size w w1) := Lib.hid (below_step (by with_reducible (repeat first | exact bR _ _ | assumption | exact ho (by assumption) | refine bD ?_ | refine bN ?_ _ | refine bA ?_ ?_ _ | refine bS ?_ ?_ _) <;> (first | omega | (simp <;> omega))) hb)
  have hs_w1 := hb.size
  try simp only [World.size_alloc, sz_set, sz_drew, sz_drewN] at hs_w1
  have q0_w1 : w.heap.size < w1.heap.size := by omega
  have q1_w1 : w.heap.size + 1 < w1.heap.size := by omega
  have HK_w1 := Lib.hid hb
  clear hb
  go_wp2_with fail
  (with_reducible refine Calls.mono (H2.out _ (by with_reducible (repeat first | exact bR _ _ | assumption | exact ho (by assumption) | refine bD ?_ | refine bN ?_ _ | refine bA ?_ ?_ _ | refine bS ?_ ?_ _) <;> (first | omega | (simp <;> omega)))) ?_)
  rintro e w2 ⟨rfl, hb⟩
  obtain ⟨hc_w2, hf_w2⟩ := bcell hb
  have HB_w2 : Hid (Below w.heap.size w w2) := Lib.hid (below_step (by with_reducible (repeat first | exact bR _ _ | assumption | exact ho (by assumption) | refine bD ?_ | refine bN ?_ _ | refine bA ?_ ?_ _ | refine bS ?_ ?_ _) <;> (first | omega | (simp <;> omega))) hb)
  have hs_w2 := hb.size
  try simp only [World.size_alloc, sz_set, sz_drew, sz_drewN] at hs_w2
  have q0_w2 : w.heap.size < w2.heap.size := by omega
  have q1_w2 : w.heap.size + 1 < w2.heap.size := by omega
  have HK_w2 := Lib.hid hb
  clear hb
  go_wp2_with fail
  (with_reducible refine Calls.mono (H3.out _ (by with_reducible (repeat first | exact bR _ _ | assumption | exact ho (by assumption) | refine bD ?_ | refine bN ?_ _ | refine bA ?_ ?_ _ | refine bS ?_ ?_ _) <;> (first | omega | (simp <;> omega)))) ?_)
  rintro e w3 ⟨qo, qc, rfl, hqr, hqc, hqc2, hb⟩
  have HB42 : Hid (Blk w3 w2.heap.size 54 #[.int .i64 lv, .bool sp, .slice none 0 0]) := Lib.hid (Blk.below (Blk.newAt rfl) hb)
  have hqd : w2.heap.size < w3.heap.size := HB42.out.lt
  obtain ⟨hc_w3, hf_w3⟩ := bcell hb
  have HB_w3 : Hid (Below w.heap.size w w3) := Lib.hid (below_step (by with_reducible (repeat first | exact bR _ _ | assumption | exact ho (by assumption) | refine bD ?_ | refine bN ?_ _ | refine bA ?_ ?_ _ | refine bS ?_ ?_ _) <;> (first | omega | (simp <;> omega))) hb)
  have hs_w3 := hb.size
  try simp only [World.size_alloc, sz_set, sz_drew, sz_drewN] at hs_w3
  have q0_w3 : w.heap.size < w3.heap.size := by omega
  have q1_w3 : w.heap.size + 1 < w3.heap.size := by omega
  have HK_w3 := Lib.hid hb
  clear hb
  have HQR := Lib.hid hqr
  clear hqr
  have n0 : w.heap.size ≠ w2.heap.size := by omega
  have n1 : w.heap.size + 1 ≠ w2.heap.size := by omega
  go_wp2
  go_loopg [12] m (fun fu v wr => ∃ (i : Nat) (ao : Option Addr) (c : Nat), v = .int .i64 i ∧ i ≤ m ∧ m - i ≤ fu ∧ Hid (Blk wr w2.heap.size 54 #[.int .i64 lv, .bool sp, .slice ao i c]) ∧ Hid (OwR wr w3.heap.size (.slice ao i c) (mkRows i N f)) ∧ Hid (Turn w3 wr [w2.heap.size]))
  case atStart => exact ⟨0, none, 0, rfl, by omega, by omega, HB42, Lib.hid (OwR.nil _ _), Lib.hid (Turn.refl _ _)⟩
  case round =>
    obtain ⟨i, ao, c, rfl, hi, hfu, HBO, HOR, HT⟩ := hrel
    obtain ⟨hcr, hfr⟩ := tcell HT.out
    by_cases hlt : i < m
    case neg =>
      obtain rfl : i = m := by omega
      obtain ⟨e0, e1, e2⟩ := el_cells HBO.out
      have HFI : Hid (∀ W4, Turn wr W4 [w.heap.size + 1] → RdRN W4 w.heap.size ao (mkRows i N f) ∧ Below w.heap.size w W4) := Lib.hid (fun W4 hT4 =>
        ⟨(HOR.out.turn hT4 (fun x hx => by simp at hx; omega)).rdn.mono (by omega), HB_w3.out.trans ((HT.out.trans' hT4).belowN HB_w3.out.size (fun x hx => by simp at hx; omega))⟩)
      obtain ⟨ao', c', e', _, hcl, hcb⟩ := HOR.out.shape
      rw [mkRows_len] at e' hcl
      cases e'
      go_wp2
      have T0 := (((Turn.refl wr [w.heap.size + 1]).setCell (p := ⟨w.heap.size + 1, 0, none⟩) (.inl (by simp)) (.int .i64 lv)).setCell (p := ⟨w.heap.size + 1, 1, none⟩) (.inl (by simp)) (.bool sp)).setCell (p := ⟨w.heap.size + 1, 2, none⟩) (.inl (by simp)) (.slice ao i c)
      obtain ⟨r1, r2⟩ := HFI.out _ T0
      refine bodyPost_ret (v := .tuple #[.agg #[.int .i64 lv, .bool sp, .slice ao i c], .int .i64 0]) (by simp [results, Tryz.results105, go_sem, hcr, hc_w3, hc_w2, hc_w1, q0_w1, q0_w2, q0_w3, q1_w1, q1_w2, q1_w3, n1]) rfl ⟨⟨_, rfl, ao, c, ?_, ?_, ?_, hcb⟩, r2⟩
      · rw [HE.out]; unfold El.val; simp only [mkRows_len]
      · rw [HE.out]; exact r1
      · rw [HE.out]; simp only; rw [mkRows_len]; exact hcl
    obtain ⟨bq, oq, rfl, hcq⟩ := HQR.out i (by rw [HQL.out]; exact hlt)
    have hq1 := HT.out.cell (hcq i (by rw [HQL.out]; exact hlt)) (by
      have hne := elem_no_u32 HB42.out (hcq i (by rw [HQL.out]; exact hlt))
      simpa using hne)
    have hqb := HQB.out i hlt
    have HRI := Lib.hid (fun (j : Nat) (hj : j < N) (w : World) => HRES.out i j hlt hj w)
    have HFi : Hid (∀ j, f i j = resid (l.getD j 0) (q.getD i 0)) := Lib.hid (HF.out i)
    obtain ⟨x, hx⟩ : ∃ x, q.getD i 0 = x := ⟨_, rfl⟩
    rw [hx] at hq1 hqb HRI HFi
    have HBwr : Hid (Below w.heap.size w wr) := Lib.hid (HB_w3.out.trans (HT.out.belowN HB_w3.out.size (fun x hx => by simp at hx; omega)))
    have hbo2 : w2.heap.size < wr.heap.size := HBO.out.lt
    have c0 : wr.cell? ⟨w.heap.size, 0, none⟩ = some (.int .i64 (N : Int)) := by rw [hcr _ _ q0_w3 n0, hc_w3 _ _ (by simp; omega)]; simp [go_sem, hc_w2, hc_w1, q0_w1, q0_w2, n0]
    have hs3 := HT.out.size
    have HK3 := Lib.hid (And.intro hs3 (And.intro hcr hfr))
    clear hcq hx hcr hfr
    obtain ⟨wo, rfl⟩ : ∃ wo, wo = wr := ⟨_, rfl⟩
    go_wp2
    go_loopg [13, 14] N (fun fu v13 v14 wr => ∃ (j : Nat) (uo : Option Addr) (uc : Nat), v13 = .slice uo j uc ∧ v14 = .int .i64 j ∧ j ≤ N ∧ N - j ≤ fu ∧ Hid (OwU wr wo.heap.size (.slice uo j uc) ((List.range j).map (f i))) ∧ Hid (Below wo.heap.size wo wr))
    case atStart => exact ⟨0, none, 0, rfl, rfl, by omega, by omega, Lib.hid (OwU.nil _ _), Lib.hid (Below.refl _ _)⟩
    case round =>
      obtain ⟨j, uo, uc, rfl, rfl, hj, hfu2, HU, HB⟩ := hrel
      have c0' := (HB.out.cell (World.block_lt_of_cell? wo _ c0)).trans c0
      have q1' := (HB.out.cell (World.block_lt_of_cell? wo _ hq1)).trans hq1
      by_cases hjl : j < N
      case neg =>
        obtain rfl : j = N := by omega
        have hbo3 := HBO.out.below HB.out
        obtain ⟨e0, e1, e2⟩ := el_cells hbo3
        have f2 := hbo3.free 2
        obtain ⟨uo', uc', eu, hurd, huc, hucb, hub⟩ := HU.out.shape
        have hrl : ((List.range j).map (f i)).length = j := by simp
        rw [hrl] at eu huc
        cases eu
        have hal : Below wr.heap.size wr (wr.alloc (.cells #[.slice uo j uc] 23)) := (Below.refl _ wr).alloc (Nat.le_refl _) _
        obtain ⟨v', w4, hrun, hO4, hB4, hT4⟩ := ((HOR.out.below HB.out).below hal).append (by have := HT.out.size; have := HB.out.size; simp; omega) (by rw [mkRows_len]; omega) 52 ⟨wr.heap.size, 0, none⟩ 1 uo uc ((List.range j).map (f i)) (by rw [hrl]; exact (Blk.new wr _ _).cell 0) (hurd.below hal) (by rw [hrl]; exact huc) (fun a ha => by
          have h1 := hub a ha
          obtain ⟨vals, ho1, hg1, _⟩ := HOR.out
          obtain ⟨b', o', e', hc'⟩ := hurd 0 (by rw [hrl]; omega)
          have h2 := World.block_lt_of_cell? wr _ (hc' 0 (by rw [hrl]; omega))
          rw [ha] at e'
          cases e'
          simp only at h1 h2
          refine ⟨fun k => ?_, (HU.out.u32 (by rw [ha])).below hal, by have := HT.out.size; simp only; omega⟩
          have := hg1 _ k
          simp only at this
          omega)
        obtain ⟨ao4, c4', rfl, _, _, _⟩ := hO4.shape
        rw [← mkRows_succ, mkRows_len] at hO4
        have hl4 : (mkRows i j f ++ [(List.range j).map (f i)]).length = i + 1 := by rw [List.length_append, mkRows_len]; rfl
        rw [hl4] at hrun
        have hbk4 : Blk w4 w2.heap.size 54 #[.int .i64 lv, .bool sp, .slice ao i c] := (hB4.block _ (by omega)).trans ((hbo3.below hal))
        have HBK4 := Lib.hid hbk4
        have HO4 := Lib.hid hO4
        have HT4 : Hid (Turn w3 w4 [w2.heap.size]) := Lib.hid (HT.out.low (((HB.out.mono HT.out.size).trans (hal.mono (Nat.le_trans HT.out.size HB.out.size))).trans hB4) (Nat.le_refl _))
        have f2' := hbk4.free 2
        have e2' : w4.cell? ⟨w2.heap.size, 2, none⟩ = some (.slice ao i c) := hbk4.cell 2
        clear hbo3 hurd hub hal hO4 hB4 hT4 hbk4
        go_wp2_with (at_builtin; refine Lib.wpList_append_run _ rfl (.tmp 66) (.tmp 68) 52 52 rfl _ _ rfl rfl _ _ hrun ?_)
        go_roundg (m - (i + 1))
        case measure => omega
        case rel => exact ⟨i + 1, ao4, c4', by go_num, by omega, Nat.le_refl _, Lib.hid (HBK4.out.set 2 _), Lib.hid (HO4.out.turn (S := [w2.heap.size]) ((Turn.refl w4 _).setCell (p := ⟨w2.heap.size, 2, none⟩) (.inl (by simp)) _) (fun x hx => by simp at hx; omega)), Lib.hid (HT4.out.setCell (p := ⟨w2.heap.size, 2, none⟩) (.inl (by simp)) _)⟩
      obtain ⟨b1, o1, rfl, hc1⟩ := (HRD.out.below HBwr.out) j (by rw [HLN.out]; exact hjl)
      have d1 := hc1 j (by rw [HLN.out]; exact hjl)
      have hfj := HFi.out j
      have hRj := HRI.out j hjl
      obtain ⟨y, hy⟩ : ∃ y, l.getD j 0 = y := ⟨_, rfl⟩
      rw [hy] at d1 hfj hRj
      have hrx := resid_lt (n := y) hqb.1
      obtain ⟨t, ht⟩ : ∃ t, resid y x = t := ⟨_, rfl⟩
      rw [ht] at hrx hfj hRj
      have HRj := Lib.hid hRj
      have hw4 : IntKind.u32.wrap (t : Int) = (t : Int) := IntWalk.u32_in _ (by omega)
      have HSK : Hid (∀ w', Below wo.heap.size wo w' → w'.cell? ⟨bq, oq + i, none⟩ = some (.int .u32 (x : Int)) ∧ w'.cell? ⟨b1, o1 + j, none⟩ = some (.int .i64 y)) := Lib.hid (fun w' hb => by
        have t : ∀ {a : Addr} {v : Value}, wo.cell? a = some v → w'.cell? a = some v := fun {a v} h => (hb.cell (World.block_lt_of_cell? wo _ h)).trans h
        exact ⟨t hq1, t d1⟩)
      have hOw : OwU ((wr.alloc (.cells #[.int .u32 (t : Int)] 22)).drew) wo.heap.size (.slice uo j uc) ((List.range j).map (f i)) := World.ownsRow.alloc HU.out _
      obtain ⟨v', w4, hrun, hO3, hB3⟩ := hOw.append (by have := HB.out.size; show _ ≤ (wr.alloc _).heap.size; simp; omega) (by simp; omega) 23 ⟨wr.heap.size, 0, none⟩ 1 t ((Blk.new wr _ _).cell 0)
      obtain ⟨uo3, uc3, rfl, _⟩ := hO3.shape
      have hlnn : ((List.range j).map (f i) ++ [t]).length = j + 1 := by simp
      rw [hlnn, ← hfj, ← range_snoc] at hO3
      have HO3 := Lib.hid hO3
      have HB3 : Hid (Below wo.heap.size wo w4) := Lib.hid (((HB.out.alloc HB.out.size _).drew).trans hB3)
      have HB2' : Hid (∀ o, Below wo.heap.size wo (wr.alloc o).drew) := Lib.hid (fun o => (HB.out.alloc HB.out.size _).drew)
      rw [hlnn] at hrun
      clear hc1 hOw hO3 hB3 hRj ht hy hfj
      have i0 : (0 : Int) ≤ (i : Int) := Int.natCast_nonneg _
      have i1 : (i : Int) < (m : Int) := by omega
      have j0 : (0 : Int) ≤ (j : Int) := Int.natCast_nonneg _
      have j1 : (j : Int) < (N : Int) := by omega
      go_wp2
      go_region_held3 (fun w' => w'.cell? ⟨bq, oq + i, none⟩ = some (.int .u32 (x : Int)) ∧ w'.cell? ⟨b1, o1 + j, none⟩ = some (.int .i64 y))
        (first | exact HSK.out _ HB.out.drew | exact HSK.out _ (HB2'.out _) | exact HSK.out _ HB3.out)
        (first | (go_at_call 129; refine (HRj.out _).mono ?_; rintro e w' ⟨rfl, rfl⟩) | (refine step_append_run (by rfl) (.tmp 52) (.tmp 63) 23 (by rfl) _ _ (by rfl) (by rfl) _ _ hrun ?_))
      all_goals (
        go_wp2
        go_roundg (N - (j + 1))
        case measure => omega
        case rel => exact ⟨j + 1, uo3, uc3, rfl, by go_num, by omega, Nat.le_refl _, HO3, HB3⟩)
end Go.Proofs.YtcipjbckcnkfaaaGreat
