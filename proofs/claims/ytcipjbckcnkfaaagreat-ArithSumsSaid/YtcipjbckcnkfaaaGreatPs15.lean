/- The program's sums, differences and products of elements that match. (Printed by genring.py.)
The functions that fill the rows of a multiple and of a list's element. -/
import Derived.Test.YtcipjbckcnkfaaaGreatPs13
import Derived.Test.YtcipjbckcnkfaaaGreatPs14
import Derived.Test.YtcipjbckcnkfaaaGreatPs12
import Derived.Test.YtcipjbckcnkfaaaGreatPs06
import Derived.Test.YtcipjbckcnkfaaaGreatPs11
import Derived.Test.YtcipjbckcnkfaaaGreatPs03
set_option linter.unusedSimpArgs false
set_option linter.unusedVariables false
namespace Go.Proofs.YtcipjbckcnkfaaaGreat
open Go.RowKit Go.Shelf

set_option maxHeartbeats 3200000 in
theorem rgalike_walk (p : Par) (ca : Option Addr) (cc : Nat) (A B : El) (aa ab : Option Addr) (cA cB : Nat) (w : World) (hin : ParIn w p ca cc) (hg : Good p) (hM : Match p A B) (hra : RdR w aa A.rows) (hrb : RdR w ab B.rows) :
    Calls Tryz.prog 70 #[.agg (p.cells ca cc), A.val aa cA, B.val ab cB] w fun e w' => e = .returned (.bool true) ∧ Below w.heap.size w w' := by
  have H1 : Hid (∀ w', Below w.heap.size w w' → Calls Tryz.prog 90 #[.agg (p.cells ca cc), A.val aa cA] w' fun e w2 => e = .returned (.int .i64 0) ∧ Below w'.heap.size w' w2) := Lib.hid (fun w' hb => by
    have h2 := rgCheck_walk p ca cc A aa cA w' (hin.below hb) hg (hg.elIn hM.a (hra.below hb))
    rw [chk_pos hM.a] at h2
    exact h2)
  have H2 : Hid (∀ w', Below w.heap.size w w' → Calls Tryz.prog 90 #[.agg (p.cells ca cc), B.val ab cB] w' fun e w2 => e = .returned (.int .i64 0) ∧ Below w'.heap.size w' w2) := Lib.hid (fun w' hb => by
    have h2 := rgCheck_walk p ca cc B ab cB w' (hin.below hb) hg (hg.elIn hM.b (hrb.below hb))
    rw [chk_pos hM.b] at h2
    exact h2)
  have hl := hM.level
  have hs := hM.special
  unfold El.val Par.cells at *
  rw [hl, hs] at H2 ⊢
  clear hin hg hM hra hrb hl hs
  go_enter Tryz.func70, Tryz.ntmps70
  go_wp2_with fail
  (with_reducible refine Calls.mono (H1.out _ (by with_reducible (repeat first | exact bR _ _ | assumption | exact ho (by assumption) | refine bD ?_ | refine bN ?_ _ | refine bA ?_ ?_ _ | refine bS ?_ ?_ _) <;> (first | omega | (simp <;> omega)))) ?_)
  rintro e w2 ⟨rfl, hb⟩
  obtain ⟨hc_w2, hf_w2⟩ := bcell hb
  have HB_w2 : Hid (Below w.heap.size w w2) := Lib.hid (below_step (by with_reducible (repeat first | exact bR _ _ | assumption | exact ho (by assumption) | refine bD ?_ | refine bN ?_ _ | refine bA ?_ ?_ _ | refine bS ?_ ?_ _) <;> (first | omega | (simp <;> omega))) hb)
  have hs_w2 := hb.size
  try simp only [World.size_alloc, sz_set, sz_drew, sz_drewN] at hs_w2
  have q0_w2 : w.heap.size < w2.heap.size := by omega
  have q1_w2 : w.heap.size + 1 < w2.heap.size := by omega
  have q2_w2 : w.heap.size + 1 + 1 < w2.heap.size := by omega
  have HK_w2 := Lib.hid hb
  clear hb
  go_wp2_with fail
  (with_reducible refine Calls.mono (H2.out _ (by with_reducible (repeat first | exact bR _ _ | assumption | exact ho (by assumption) | refine bD ?_ | refine bN ?_ _ | refine bA ?_ ?_ _ | refine bS ?_ ?_ _) <;> (first | omega | (simp <;> omega)))) ?_)
  rintro e w3 ⟨rfl, hb⟩
  obtain ⟨hc_w3, hf_w3⟩ := bcell hb
  have HB_w3 : Hid (Below w.heap.size w w3) := Lib.hid (below_step (by with_reducible (repeat first | exact bR _ _ | assumption | exact ho (by assumption) | refine bD ?_ | refine bN ?_ _ | refine bA ?_ ?_ _ | refine bS ?_ ?_ _) <;> (first | omega | (simp <;> omega))) hb)
  have hs_w3 := hb.size
  try simp only [World.size_alloc, sz_set, sz_drew, sz_drewN] at hs_w3
  have q0_w3 : w.heap.size < w3.heap.size := by omega
  have q1_w3 : w.heap.size + 1 < w3.heap.size := by omega
  have q2_w3 : w.heap.size + 1 + 1 < w3.heap.size := by omega
  have HK_w3 := Lib.hid hb
  clear hb
  go_wp2
  go_ret
  exact ⟨rfl, (by with_reducible (repeat first | exact bR _ _ | assumption | exact ho (by assumption) | refine bD ?_ | refine bN ?_ _ | refine bA ?_ ?_ _ | refine bS ?_ ?_ _) <;> (first | omega | (simp <;> omega)))⟩

/-- What two matching elements have in common. -/
theorem Match.shape {p : Par} {A B : El} (hg : Good p) (h : Match p A B) : ∃ lv m n : Nat, A.level = lv ∧ A.rows.length = m ∧ B.rows.length = m ∧ p.n = (n : Int) ∧ (p.qs A.level A.special).length = m ∧ 1 ≤ lv ∧ lv ≤ p.chain.length ∧ 0 < n ∧ n ≤ 32 ∧ (A.special = false → m = lv) ∧ (A.special = true → m = lv + 1) ∧
    (∀ i, i < m → (A.row i).length = n ∧ (B.row i).length = n) ∧ (∀ i, i < m → ∀ j, j < n → A.get i j < (p.qs A.level A.special).getD i 0 ∧ B.get i j < (p.qs A.level A.special).getD i 0) ∧ (∀ i, i < m → 0 < (p.qs A.level A.special).getD i 0 ∧ (p.qs A.level A.special).getD i 0 ≤ 2147483647) := by
  have h1 := h.a.1.1
  have h2 := h.a.1.2.1
  obtain ⟨lv, hlv⟩ := Int.eq_ofNat_of_zero_le (show 0 ≤ A.level by omega)
  obtain ⟨n, hn⟩ := Int.eq_ofNat_of_zero_le (show 0 ≤ p.n by have := hg.n; omega)
  have hn4 := hg.n
  have hq := qs_len h.a.1
  have hma := h.a.2.1
  have hmb : B.rows.length = A.rows.length := by rw [hma, h.b.2.1, h.level, h.special]
  have hna : ∀ i, i < A.rows.length → (A.row i).length = n ∧ (B.row i).length = n := fun i hi => ⟨by have := (h.a.2.2 i hi).1; omega, by have := (h.b.2.2 i (by omega)).1; omega⟩
  refine ⟨lv, A.rows.length, n, hlv, rfl, hmb, hn, hma.symm, by omega, by omega, by omega, by omega, fun e => ?_, fun e => ?_, hna, fun i hi j hj => ⟨(h.a.2.2 i hi).2 j (by rw [(hna i hi).1]; exact hj), ?_⟩, fun i hi => ?_⟩
  · rw [e] at hq hma; simp at hq; omega
  · rw [e] at hq hma; simp at hq; omega
  · have := (h.b.2.2 i (by omega)).2 j (by rw [(hna i hi).2]; exact hj)
    rw [h.level, h.special] at this
    exact this
  · have := hg.qs (level := A.level) (sp := A.special) (i := i) (by omega)
    omega
theorem qs_low {p : Par} {level : Int} {sp : Bool} {lv j : Nat} (hl : level = lv) (h : lv ≤ p.chain.length) (hj : j < lv) : (p.qs level sp).getD j 0 = p.chain.getD j 0 := by
  unfold Par.qs
  rw [hl, Int.toNat_natCast, List.getD_eq_getElem?_getD, List.getElem?_append_left (by rw [List.length_take]; omega), ← List.getD_eq_getElem?_getD]
  simp [List.getD_eq_getElem?_getD, hj]
theorem qs_top {p : Par} {level : Int} {sp : Bool} {lv : Nat} (hl : level = lv) (h : lv ≤ p.chain.length) (hs : sp = true) : (p.qs level sp).getD lv 0 = p.special := by
  unfold Par.qs
  rw [hl, hs, Int.toNat_natCast, List.getD_eq_getElem?_getD, List.getElem?_append_right (by rw [List.length_take]; omega), List.length_take, Nat.min_eq_left h]
  simp
/-- A result of the program's: memory of its own. -/
def PutEl (base : Nat) (E : El) (e : Ending) (w' : World) : Prop := ∃ ao c, e = .returned (.tuple #[E.val ao c, .int .i64 0]) ∧ OwR w' base (.slice ao E.rows.length c) E.rows
theorem fills_mul {w : World} {ba bb lv m n : Nat} {sp : Bool} {A B : El} {aa ab : Option Addr} {cA cB : Nat} (hT : TwoAt w ba bb lv m n sp A B aa ab cA cB) (hn : n ≤ 32) (hn0 : 0 < n) {qf : Nat → Nat} (hq : ∀ i, i < m → 0 < qf i ∧ qf i ≤ 2147483647)
    (hv : ∀ i, i < m → ∀ j, j < n → A.get i j < qf i ∧ B.get i j < qf i) : Fills w 72 #[.pointer (some ⟨ba, 0, none⟩), .pointer (some ⟨bb, 0, none⟩)] m n qf (fun i k => nc (A.get i) (B.get i) (qf i) n k) :=
  fun i g wr hi hb hg hr => mul1_walk ba bb lv m n g i (qf i) sp A B aa ab cA cB wr hr hn hn0 hi (hq i hi).1 (hq i hi).2 (hv i hi) ⟨w, hb, hT, hg⟩
/-- The product. -/
def mulEl (p : Par) (A B : El) : El := ⟨A.level, A.special, mkRows (p.qs A.level A.special).length p.n.toNat (fun i k => nc (A.get i) (B.get i) ((p.qs A.level A.special).getD i 0) p.n.toNat k)⟩
theorem sumF_add {p : Par} {A B : El} {i j : Nat} (hq : 1 < (p.qs A.level A.special).getD i 0) : (A.get i j + B.get i j) % (p.qs A.level A.special).getD i 0 = sumF p A B 1 i j := by
  unfold sumF resid
  rw [Int.emod_eq_of_lt (by omega) (by omega)]
  simp
theorem sumF_sub {p : Par} {A B : El} {i j : Nat} (hq : 1 < (p.qs A.level A.special).getD i 0) (hb : B.get i j < (p.qs A.level A.special).getD i 0) : (A.get i j + (p.qs A.level A.special).getD i 0 - B.get i j) % (p.qs A.level A.special).getD i 0 = sumF p A B (-1) i j := by
  unfold sumF
  generalize (p.qs A.level A.special).getD i 0 = q at *
  generalize A.get i j = a at *
  generalize B.get i j = b at *
  have e : resid (-1) q = q - 1 := by
    apply Int.ofNat.inj
    show (resid (-1) q : Int) = ((q - 1 : Nat) : Int)
    rw [resid_int (by omega)]
    have e2 : (-1 : Int) = ((q - 1 : Nat) : Int) + q * (-1) := by omega
    rw [e2, Int.add_mul_emod_self_left, Int.emod_eq_of_lt (by omega) (by omega)]
  rw [e]
  apply Int.ofNat.inj
  show (((a + q - b) % q : Nat) : Int) = (((a + b * (q - 1)) % q : Nat) : Int)
  have e3 : ((b * (q - 1) : Nat) : Int) = (b : Int) * q - b := by
    rw [Int.natCast_mul, Int.natCast_sub (by omega), Int.mul_sub]; simp
  rw [Int.natCast_emod, Int.natCast_emod, Int.natCast_add, e3]
  have e4 : ((a + q - b : Nat) : Int) = (a - b : Int) + q * 1 := by omega
  have e5 : (a : Int) + ((b : Int) * q - b) = (a - b : Int) + q * b := by rw [Int.mul_comm]; omega
  rw [e4, e5, Int.add_mul_emod_self_left, Int.add_mul_emod_self_left]
theorem mkRows_congr {m n : Nat} {f g : Nat → Nat → Nat} (h : ∀ i, i < m → ∀ j, j < n → f i j = g i j) : mkRows m n f = mkRows m n g := by
  unfold mkRows
  apply List.map_congr_left
  intro i hi
  apply List.map_congr_left
  intro j hj
  exact h i (List.mem_range.1 hi) j (List.mem_range.1 hj)

set_option maxHeartbeats 6400000 in
theorem rgAdd_walk (p : Par) (ca : Option Addr) (cc : Nat) (A B : El) (aa ab : Option Addr) (cA cB : Nat) (w : World) (hin : ParIn w p ca cc) (hg : Good p) (hM : Match p A B) (hra : RdR w aa A.rows) (hrb : RdR w ab B.rows) :
    Calls Tryz.prog 39 #[.agg (p.cells ca cc), A.val aa cA, B.val ab cB] w fun e w' => PutEl w.heap.size (sumEl p A B 1) e w' ∧ Below w.heap.size w w' := by
  obtain ⟨b, off, rfl, _⟩ := hin.rd 0 (by have := hg.len; omega)
  obtain ⟨lv, m, n, hlv, hma, hmb, hpn, hqm, hlv1, hlv2, hn0, hn32, hs0, hs1, hna, hval, hqb⟩ := hM.shape hg
  have H1 := Lib.hid (fun (w' : World) (hb : Below w.heap.size w w') => rgalike_walk p (some ⟨b, off, none⟩) cc A B aa ab cA cB w' (hin.below hb) hg hM (hra.below hb) (hrb.below hb))
  obtain ⟨qf, hqf⟩ : ∃ qf : Nat → Nat, (fun i => (p.qs A.level A.special).getD i 0) = qf := ⟨_, rfl⟩
  have hqf' : ∀ i, (p.qs A.level A.special).getD i 0 = qf i := fun i => by rw [← hqf]
  have hrows : (sumEl p A B 1).rows = mkRows m n (fun i j => (A.get i j + B.get i j) % qf i) := by
    show mkRows _ _ _ = _
    rw [hqm, hpn, Int.toNat_natCast]
    exact mkRows_congr (fun i hi j hj => by rw [← hqf']; exact (sumF_add (by have := hg.qs (level := A.level) (sp := A.special) (i := i) (by omega); omega)).symm)
  obtain ⟨F, hF⟩ : ∃ F : Nat → Nat → Nat, (fun i j => (A.get i j + B.get i j) % qf i) = F := ⟨_, rfl⟩
  have H2 : Hid (∀ w', Below w.heap.size w w' → Blk w' w.heap.size 25 (p.cells (some ⟨b, off, none⟩) cc) → Blk w' (w.heap.size + 1) 54 #[.int .i64 lv, .bool A.special, .slice aa m cA] → Blk w' (w.heap.size + 1 + 1) 54 #[.int .i64 lv, .bool A.special, .slice ab m cB] → Calls Tryz.prog 71 #[.pointer (some ⟨w.heap.size, 0, none⟩), .int .i64 lv, .bool A.special, .func (.func 73) #[] #[.pointer (some ⟨w.heap.size + 1, 0, none⟩), .pointer (some ⟨w.heap.size + 1 + 1, 0, none⟩)]] w'
      fun e w2 => ∃ ao c, e = .returned (.agg #[.int .i64 lv, .bool A.special, .slice ao m c]) ∧ OwR w2 w'.heap.size (.slice ao m c) (mkRows m n F) ∧ Below w'.heap.size w' w2) := Lib.hid (fun w' hb h1 h2 h3 => by
    refine each_walk w.heap.size b off lv cc A.special p _ _ n m qf F w' (hin.below hb) h1 hpn hn32 hlv1 hlv2 hg.len.2 hs0 hs1 (fun j hj => by rw [← hqf', qs_low hlv hlv2 hj]) (fun h => by rw [← hqf', qs_top hlv hlv2 h]) (fun i hi => by have := (hqb i hi).2; rw [hqf'] at this; omega) enters_add1 ?_
    rw [← hF]
    exact fills_add ⟨h2, h3, hra.below hb, hrb.below hb, hma, hmb, hna⟩ hn32 (fun i hi => by rw [← hqf']; exact hqb i hi) (fun i hi j hj => by rw [← hqf']; exact hval i hi j hj))
  have HR := Lib.hid hrows
  have hl := hM.level
  have hs := hM.special
  obtain ⟨sp, hsp⟩ : ∃ sp, A.special = sp := ⟨_, rfl⟩
  have hEl : (sumEl p A B 1).level = A.level := rfl
  have hEs : (sumEl p A B 1).special = A.special := rfl
  obtain ⟨E, hE⟩ : ∃ E, sumEl p A B 1 = E := ⟨_, rfl⟩
  rw [hE] at HR hEl hEs ⊢
  rw [hF] at HR
  rw [hlv] at hEl
  rw [hsp] at hEs
  have HEl := Lib.hid hEl
  have HEs := Lib.hid hEs
  unfold El.val Par.cells at *
  rw [hl, hs, hlv, hsp, hma, hmb] at H1 ⊢
  rw [hsp] at H2
  clear hin hg hM hra hrb hl hs hlv hsp hma hmb hpn hqm hs0 hs1 hna hval hqb hqf hqf' hrows hF hEl hEs hE
  go_enter Tryz.func39, Tryz.ntmps39
  go_wp2_with fail
  (with_reducible refine Calls.mono (H1.out _ (by with_reducible (repeat first | exact bR _ _ | assumption | exact ho (by assumption) | refine bD ?_ | refine bN ?_ _ | refine bA ?_ ?_ _ | refine bS ?_ ?_ _) <;> (first | omega | (simp <;> omega)))) ?_)
  rintro e w2 ⟨rfl, hb⟩
  obtain ⟨hc_w2, hf_w2⟩ := bcell hb
  have HB_w2 : Hid (Below w.heap.size w w2) := Lib.hid (below_step (by with_reducible (repeat first | exact bR _ _ | assumption | exact ho (by assumption) | refine bD ?_ | refine bN ?_ _ | refine bA ?_ ?_ _ | refine bS ?_ ?_ _) <;> (first | omega | (simp <;> omega))) hb)
  have hs_w2 := hb.size
  try simp only [World.size_alloc, sz_set, sz_drew, sz_drewN] at hs_w2
  have q0_w2 : w.heap.size < w2.heap.size := by omega
  have q1_w2 : w.heap.size + 1 < w2.heap.size := by omega
  have q2_w2 : w.heap.size + 1 + 1 < w2.heap.size := by omega
  have q3_w2 : w.heap.size + 1 + 1 + 1 < w2.heap.size := by omega
  have HK_w2 := Lib.hid hb
  clear hb
  go_wp2_with fail
  (with_reducible refine Calls.mono (H2.out _ (by with_reducible (repeat first | exact bR _ _ | assumption | exact ho (by assumption) | refine bD ?_ | refine bN ?_ _ | refine bA ?_ ?_ _ | refine bS ?_ ?_ _) <;> (first | omega | (simp <;> omega))) (by repeat (first | exact Blk.newAt (by (first | omega | (simp only [World.size_alloc, sz_set, sz_drew, sz_drewN]; done) | (simp only [World.size_alloc, sz_set, sz_drew, sz_drewN]; omega))) | (with_reducible refine Blk.alloc ?_ _) | (with_reducible refine Blk.drew ?_) | (with_reducible refine Blk.drewN ?_ _) | (with_reducible refine Blk.belowB ?_ (Hid.out (by assumption)) ?szk; case szk => (first | omega | (simp only [World.size_alloc, sz_set, sz_drew, sz_drewN]; done) | (simp only [World.size_alloc, sz_set, sz_drew, sz_drewN]; omega))))) (by repeat (first | exact Blk.newAt (by (first | omega | (simp only [World.size_alloc, sz_set, sz_drew, sz_drewN]; done) | (simp only [World.size_alloc, sz_set, sz_drew, sz_drewN]; omega))) | (with_reducible refine Blk.alloc ?_ _) | (with_reducible refine Blk.drew ?_) | (with_reducible refine Blk.drewN ?_ _) | (with_reducible refine Blk.belowB ?_ (Hid.out (by assumption)) ?szk; case szk => (first | omega | (simp only [World.size_alloc, sz_set, sz_drew, sz_drewN]; done) | (simp only [World.size_alloc, sz_set, sz_drew, sz_drewN]; omega))))) (by repeat (first | exact Blk.newAt (by (first | omega | (simp only [World.size_alloc, sz_set, sz_drew, sz_drewN]; done) | (simp only [World.size_alloc, sz_set, sz_drew, sz_drewN]; omega))) | (with_reducible refine Blk.alloc ?_ _) | (with_reducible refine Blk.drew ?_) | (with_reducible refine Blk.drewN ?_ _) | (with_reducible refine Blk.belowB ?_ (Hid.out (by assumption)) ?szk; case szk => (first | omega | (simp only [World.size_alloc, sz_set, sz_drew, sz_drewN]; done) | (simp only [World.size_alloc, sz_set, sz_drew, sz_drewN]; omega)))))) ?_)
  rintro e w3 ⟨ao, c, rfl, hO, hb⟩
  have HO := Lib.hid hO
  clear hO
  have hb3 : w.heap.size + 1 + 1 + 1 < w2.heap.size := q3_w2
  obtain ⟨hc_w3, hf_w3⟩ := bcell hb
  have HB_w3 : Hid (Below w.heap.size w w3) := Lib.hid (below_step (by with_reducible (repeat first | exact bR _ _ | assumption | exact ho (by assumption) | refine bD ?_ | refine bN ?_ _ | refine bA ?_ ?_ _ | refine bS ?_ ?_ _) <;> (first | omega | (simp <;> omega))) hb)
  have hs_w3 := hb.size
  try simp only [World.size_alloc, sz_set, sz_drew, sz_drewN] at hs_w3
  have q0_w3 : w.heap.size < w3.heap.size := by omega
  have q1_w3 : w.heap.size + 1 < w3.heap.size := by omega
  have q2_w3 : w.heap.size + 1 + 1 < w3.heap.size := by omega
  have q3_w3 : w.heap.size + 1 + 1 + 1 < w3.heap.size := by omega
  have HK_w3 := Lib.hid hb
  clear hb
  go_wp2
  refine bodyPost_ret (v := .tuple #[.agg #[.int .i64 lv, .bool sp, .slice ao m c], .int .i64 0]) (by simp [results, Tryz.results39, go_sem, hc_w3, hc_w2, q3_w2, q3_w3]) rfl ⟨⟨ao, c, ?_, ?_⟩, (by with_reducible (repeat first | exact bR _ _ | assumption | exact ho (by assumption) | refine bD ?_ | refine bN ?_ _ | refine bA ?_ ?_ _ | refine bS ?_ ?_ _) <;> (first | omega | (simp <;> omega)))⟩
  · unfold El.val; rw [HEl.out, HEs.out, HR.out, mkRows_len]
  · rw [HR.out, mkRows_len]
    exact (HO.out.turn (S := [w.heap.size + 1 + 1 + 1]) ((((Turn.refl w3 [w.heap.size + 1 + 1 + 1]).setCell (p := ⟨w.heap.size + 1 + 1 + 1, 0, none⟩) (.inl (by simp)) _).setCell (p := ⟨w.heap.size + 1 + 1 + 1, 1, none⟩) (.inl (by simp)) _).setCell (p := ⟨w.heap.size + 1 + 1 + 1, 2, none⟩) (.inl (by simp)) _) (fun x hx => by simp at hx; omega)).mono (by omega)

set_option maxHeartbeats 6400000 in
theorem rgSub_walk (p : Par) (ca : Option Addr) (cc : Nat) (A B : El) (aa ab : Option Addr) (cA cB : Nat) (w : World) (hin : ParIn w p ca cc) (hg : Good p) (hM : Match p A B) (hra : RdR w aa A.rows) (hrb : RdR w ab B.rows) :
    Calls Tryz.prog 46 #[.agg (p.cells ca cc), A.val aa cA, B.val ab cB] w fun e w' => PutEl w.heap.size (sumEl p A B (-1)) e w' ∧ Below w.heap.size w w' := by
  obtain ⟨b, off, rfl, _⟩ := hin.rd 0 (by have := hg.len; omega)
  obtain ⟨lv, m, n, hlv, hma, hmb, hpn, hqm, hlv1, hlv2, hn0, hn32, hs0, hs1, hna, hval, hqb⟩ := hM.shape hg
  have H1 := Lib.hid (fun (w' : World) (hb : Below w.heap.size w w') => rgalike_walk p (some ⟨b, off, none⟩) cc A B aa ab cA cB w' (hin.below hb) hg hM (hra.below hb) (hrb.below hb))
  obtain ⟨qf, hqf⟩ : ∃ qf : Nat → Nat, (fun i => (p.qs A.level A.special).getD i 0) = qf := ⟨_, rfl⟩
  have hqf' : ∀ i, (p.qs A.level A.special).getD i 0 = qf i := fun i => by rw [← hqf]
  have hrows : (sumEl p A B (-1)).rows = mkRows m n (fun i j => (A.get i j + qf i - B.get i j) % qf i) := by
    show mkRows _ _ _ = _
    rw [hqm, hpn, Int.toNat_natCast]
    exact mkRows_congr (fun i hi j hj => by rw [← hqf']; exact (sumF_sub (by have := hg.qs (level := A.level) (sp := A.special) (i := i) (by omega); omega) (hval i hi j hj).2).symm)
  obtain ⟨F, hF⟩ : ∃ F : Nat → Nat → Nat, (fun i j => (A.get i j + qf i - B.get i j) % qf i) = F := ⟨_, rfl⟩
  have H2 : Hid (∀ w', Below w.heap.size w w' → Blk w' w.heap.size 25 (p.cells (some ⟨b, off, none⟩) cc) → Blk w' (w.heap.size + 1) 54 #[.int .i64 lv, .bool A.special, .slice aa m cA] → Blk w' (w.heap.size + 1 + 1) 54 #[.int .i64 lv, .bool A.special, .slice ab m cB] → Calls Tryz.prog 71 #[.pointer (some ⟨w.heap.size, 0, none⟩), .int .i64 lv, .bool A.special, .func (.func 80) #[] #[.pointer (some ⟨w.heap.size + 1, 0, none⟩), .pointer (some ⟨w.heap.size + 1 + 1, 0, none⟩)]] w'
      fun e w2 => ∃ ao c, e = .returned (.agg #[.int .i64 lv, .bool A.special, .slice ao m c]) ∧ OwR w2 w'.heap.size (.slice ao m c) (mkRows m n F) ∧ Below w'.heap.size w' w2) := Lib.hid (fun w' hb h1 h2 h3 => by
    refine each_walk w.heap.size b off lv cc A.special p _ _ n m qf F w' (hin.below hb) h1 hpn hn32 hlv1 hlv2 hg.len.2 hs0 hs1 (fun j hj => by rw [← hqf', qs_low hlv hlv2 hj]) (fun h => by rw [← hqf', qs_top hlv hlv2 h]) (fun i hi => by have := (hqb i hi).2; rw [hqf'] at this; omega) enters_sub1 ?_
    rw [← hF]
    exact fills_sub ⟨h2, h3, hra.below hb, hrb.below hb, hma, hmb, hna⟩ hn32 (fun i hi => by rw [← hqf']; exact hqb i hi) (fun i hi j hj => by rw [← hqf']; exact hval i hi j hj))
  have HR := Lib.hid hrows
  have hl := hM.level
  have hs := hM.special
  obtain ⟨sp, hsp⟩ : ∃ sp, A.special = sp := ⟨_, rfl⟩
  have hEl : (sumEl p A B (-1)).level = A.level := rfl
  have hEs : (sumEl p A B (-1)).special = A.special := rfl
  obtain ⟨E, hE⟩ : ∃ E, sumEl p A B (-1) = E := ⟨_, rfl⟩
  rw [hE] at HR hEl hEs ⊢
  rw [hF] at HR
  rw [hlv] at hEl
  rw [hsp] at hEs
  have HEl := Lib.hid hEl
  have HEs := Lib.hid hEs
  unfold El.val Par.cells at *
  rw [hl, hs, hlv, hsp, hma, hmb] at H1 ⊢
  rw [hsp] at H2
  clear hin hg hM hra hrb hl hs hlv hsp hma hmb hpn hqm hs0 hs1 hna hval hqb hqf hqf' hrows hF hEl hEs hE
  go_enter Tryz.func46, Tryz.ntmps46
  go_wp2_with fail
  (with_reducible refine Calls.mono (H1.out _ (by with_reducible (repeat first | exact bR _ _ | assumption | exact ho (by assumption) | refine bD ?_ | refine bN ?_ _ | refine bA ?_ ?_ _ | refine bS ?_ ?_ _) <;> (first | omega | (simp <;> omega)))) ?_)
  rintro e w2 ⟨rfl, hb⟩
  obtain ⟨hc_w2, hf_w2⟩ := bcell hb
  have HB_w2 : Hid (Below w.heap.size w w2) := Lib.hid (below_step (by with_reducible (repeat first | exact bR _ _ | assumption | exact ho (by assumption) | refine bD ?_ | refine bN ?_ _ | refine bA ?_ ?_ _ | refine bS ?_ ?_ _) <;> (first | omega | (simp <;> omega))) hb)
  have hs_w2 := hb.size
  try simp only [World.size_alloc, sz_set, sz_drew, sz_drewN] at hs_w2
  have q0_w2 : w.heap.size < w2.heap.size := by omega
  have q1_w2 : w.heap.size + 1 < w2.heap.size := by omega
  have q2_w2 : w.heap.size + 1 + 1 < w2.heap.size := by omega
  have q3_w2 : w.heap.size + 1 + 1 + 1 < w2.heap.size := by omega
  have HK_w2 := Lib.hid hb
  clear hb
  go_wp2_with fail
  (with_reducible refine Calls.mono (H2.out _ (by with_reducible (repeat first | exact bR _ _ | assumption | exact ho (by assumption) | refine bD ?_ | refine bN ?_ _ | refine bA ?_ ?_ _ | refine bS ?_ ?_ _) <;> (first | omega | (simp <;> omega))) (by repeat (first | exact Blk.newAt (by (first | omega | (simp only [World.size_alloc, sz_set, sz_drew, sz_drewN]; done) | (simp only [World.size_alloc, sz_set, sz_drew, sz_drewN]; omega))) | (with_reducible refine Blk.alloc ?_ _) | (with_reducible refine Blk.drew ?_) | (with_reducible refine Blk.drewN ?_ _) | (with_reducible refine Blk.belowB ?_ (Hid.out (by assumption)) ?szk; case szk => (first | omega | (simp only [World.size_alloc, sz_set, sz_drew, sz_drewN]; done) | (simp only [World.size_alloc, sz_set, sz_drew, sz_drewN]; omega))))) (by repeat (first | exact Blk.newAt (by (first | omega | (simp only [World.size_alloc, sz_set, sz_drew, sz_drewN]; done) | (simp only [World.size_alloc, sz_set, sz_drew, sz_drewN]; omega))) | (with_reducible refine Blk.alloc ?_ _) | (with_reducible refine Blk.drew ?_) | (with_reducible refine Blk.drewN ?_ _) | (with_reducible refine Blk.belowB ?_ (Hid.out (by assumption)) ?szk; case szk => (first | omega | (simp only [World.size_alloc, sz_set, sz_drew, sz_drewN]; done) | (simp only [World.size_alloc, sz_set, sz_drew, sz_drewN]; omega))))) (by repeat (first | exact Blk.newAt (by (first | omega | (simp only [World.size_alloc, sz_set, sz_drew, sz_drewN]; done) | (simp only [World.size_alloc, sz_set, sz_drew, sz_drewN]; omega))) | (with_reducible refine Blk.alloc ?_ _) | (with_reducible refine Blk.drew ?_) | (with_reducible refine Blk.drewN ?_ _) | (with_reducible refine Blk.belowB ?_ (Hid.out (by assumption)) ?szk; case szk => (first | omega | (simp only [World.size_alloc, sz_set, sz_drew, sz_drewN]; done) | (simp only [World.size_alloc, sz_set, sz_drew, sz_drewN]; omega)))))) ?_)
  rintro e w3 ⟨ao, c, rfl, hO, hb⟩
  have HO := Lib.hid hO
  clear hO
  have hb3 : w.heap.size + 1 + 1 + 1 < w2.heap.size := q3_w2
  obtain ⟨hc_w3, hf_w3⟩ := bcell hb
  have HB_w3 : Hid (Below w.heap.size w w3) := Lib.hid (below_step (by with_reducible (repeat first | exact bR _ _ | assumption | exact ho (by assumption) | refine bD ?_ | refine bN ?_ _ | refine bA ?_ ?_ _ | refine bS ?_ ?_ _) <;> (first | omega | (simp <;> omega))) hb)
  have hs_w3 := hb.size
  try simp only [World.size_alloc, sz_set, sz_drew, sz_drewN] at hs_w3
  have q0_w3 : w.heap.size < w3.heap.size := by omega
  have q1_w3 : w.heap.size + 1 < w3.heap.size := by omega
  have q2_w3 : w.heap.size + 1 + 1 < w3.heap.size := by omega
  have q3_w3 : w.heap.size + 1 + 1 + 1 < w3.heap.size := by omega
  have HK_w3 := Lib.hid hb
  clear hb
  go_wp2
  refine bodyPost_ret (v := .tuple #[.agg #[.int .i64 lv, .bool sp, .slice ao m c], .int .i64 0]) (by simp [results, Tryz.results46, go_sem, hc_w3, hc_w2, q3_w2, q3_w3]) rfl ⟨⟨ao, c, ?_, ?_⟩, (by with_reducible (repeat first | exact bR _ _ | assumption | exact ho (by assumption) | refine bD ?_ | refine bN ?_ _ | refine bA ?_ ?_ _ | refine bS ?_ ?_ _) <;> (first | omega | (simp <;> omega)))⟩
  · unfold El.val; rw [HEl.out, HEs.out, HR.out, mkRows_len]
  · rw [HR.out, mkRows_len]
    exact (HO.out.turn (S := [w.heap.size + 1 + 1 + 1]) ((((Turn.refl w3 [w.heap.size + 1 + 1 + 1]).setCell (p := ⟨w.heap.size + 1 + 1 + 1, 0, none⟩) (.inl (by simp)) _).setCell (p := ⟨w.heap.size + 1 + 1 + 1, 1, none⟩) (.inl (by simp)) _).setCell (p := ⟨w.heap.size + 1 + 1 + 1, 2, none⟩) (.inl (by simp)) _) (fun x hx => by simp at hx; omega)).mono (by omega)

set_option maxHeartbeats 6400000 in
theorem rgMul_walk (p : Par) (ca : Option Addr) (cc : Nat) (A B : El) (aa ab : Option Addr) (cA cB : Nat) (w : World) (hin : ParIn w p ca cc) (hg : Good p) (hM : Match p A B) (hra : RdR w aa A.rows) (hrb : RdR w ab B.rows) :
    Calls Tryz.prog 38 #[.agg (p.cells ca cc), A.val aa cA, B.val ab cB] w fun e w' => PutEl w.heap.size (mulEl p A B) e w' ∧ Below w.heap.size w w' := by
  obtain ⟨b, off, rfl, _⟩ := hin.rd 0 (by have := hg.len; omega)
  obtain ⟨lv, m, n, hlv, hma, hmb, hpn, hqm, hlv1, hlv2, hn0, hn32, hs0, hs1, hna, hval, hqb⟩ := hM.shape hg
  have H1 := Lib.hid (fun (w' : World) (hb : Below w.heap.size w w') => rgalike_walk p (some ⟨b, off, none⟩) cc A B aa ab cA cB w' (hin.below hb) hg hM (hra.below hb) (hrb.below hb))
  obtain ⟨qf, hqf⟩ : ∃ qf : Nat → Nat, (fun i => (p.qs A.level A.special).getD i 0) = qf := ⟨_, rfl⟩
  have hqf' : ∀ i, (p.qs A.level A.special).getD i 0 = qf i := fun i => by rw [← hqf]
  have hrows : (mulEl p A B).rows = mkRows m n (fun i j => nc (A.get i) (B.get i) (qf i) n j) := by
    show mkRows _ _ _ = _
    rw [hqm, hpn, Int.toNat_natCast]
    exact mkRows_congr (fun i hi j hj => by rw [hqf'])
  obtain ⟨F, hF⟩ : ∃ F : Nat → Nat → Nat, (fun i j => nc (A.get i) (B.get i) (qf i) n j) = F := ⟨_, rfl⟩
  have H2 : Hid (∀ w', Below w.heap.size w w' → Blk w' w.heap.size 25 (p.cells (some ⟨b, off, none⟩) cc) → Blk w' (w.heap.size + 1) 54 #[.int .i64 lv, .bool A.special, .slice aa m cA] → Blk w' (w.heap.size + 1 + 1) 54 #[.int .i64 lv, .bool A.special, .slice ab m cB] → Calls Tryz.prog 71 #[.pointer (some ⟨w.heap.size, 0, none⟩), .int .i64 lv, .bool A.special, .func (.func 72) #[] #[.pointer (some ⟨w.heap.size + 1, 0, none⟩), .pointer (some ⟨w.heap.size + 1 + 1, 0, none⟩)]] w'
      fun e w2 => ∃ ao c, e = .returned (.agg #[.int .i64 lv, .bool A.special, .slice ao m c]) ∧ OwR w2 w'.heap.size (.slice ao m c) (mkRows m n F) ∧ Below w'.heap.size w' w2) := Lib.hid (fun w' hb h1 h2 h3 => by
    refine each_walk w.heap.size b off lv cc A.special p _ _ n m qf F w' (hin.below hb) h1 hpn hn32 hlv1 hlv2 hg.len.2 hs0 hs1 (fun j hj => by rw [← hqf', qs_low hlv hlv2 hj]) (fun h => by rw [← hqf', qs_top hlv hlv2 h]) (fun i hi => by have := (hqb i hi).2; rw [hqf'] at this; omega) enters_mul1 ?_
    rw [← hF]
    exact fills_mul ⟨h2, h3, hra.below hb, hrb.below hb, hma, hmb, hna⟩ hn32 hn0 (fun i hi => by rw [← hqf']; exact hqb i hi) (fun i hi j hj => by rw [← hqf']; exact hval i hi j hj))
  have HR := Lib.hid hrows
  have hl := hM.level
  have hs := hM.special
  obtain ⟨sp, hsp⟩ : ∃ sp, A.special = sp := ⟨_, rfl⟩
  have hEl : (mulEl p A B).level = A.level := rfl
  have hEs : (mulEl p A B).special = A.special := rfl
  obtain ⟨E, hE⟩ : ∃ E, mulEl p A B = E := ⟨_, rfl⟩
  rw [hE] at HR hEl hEs ⊢
  rw [hF] at HR
  rw [hlv] at hEl
  rw [hsp] at hEs
  have HEl := Lib.hid hEl
  have HEs := Lib.hid hEs
  unfold El.val Par.cells at *
  rw [hl, hs, hlv, hsp, hma, hmb] at H1 ⊢
  rw [hsp] at H2
  clear hin hg hM hra hrb hl hs hlv hsp hma hmb hpn hqm hs0 hs1 hna hval hqb hqf hqf' hrows hF hEl hEs hE
  go_enter Tryz.func38, Tryz.ntmps38
  go_wp2_with fail
  (with_reducible refine Calls.mono (H1.out _ (by with_reducible (repeat first | exact bR _ _ | assumption | exact ho (by assumption) | refine bD ?_ | refine bN ?_ _ | refine bA ?_ ?_ _ | refine bS ?_ ?_ _) <;> (first | omega | (simp <;> omega)))) ?_)
  rintro e w2 ⟨rfl, hb⟩
  obtain ⟨hc_w2, hf_w2⟩ := bcell hb
  have HB_w2 : Hid (Below w.heap.size w w2) := Lib.hid (below_step (by with_reducible (repeat first | exact bR _ _ | assumption | exact ho (by assumption) | refine bD ?_ | refine bN ?_ _ | refine bA ?_ ?_ _ | refine bS ?_ ?_ _) <;> (first | omega | (simp <;> omega))) hb)
  have hs_w2 := hb.size
  try simp only [World.size_alloc, sz_set, sz_drew, sz_drewN] at hs_w2
  have q0_w2 : w.heap.size < w2.heap.size := by omega
  have q1_w2 : w.heap.size + 1 < w2.heap.size := by omega
  have q2_w2 : w.heap.size + 1 + 1 < w2.heap.size := by omega
  have q3_w2 : w.heap.size + 1 + 1 + 1 < w2.heap.size := by omega
  have HK_w2 := Lib.hid hb
  clear hb
  go_wp2_with fail
  (with_reducible refine Calls.mono (H2.out _ (by with_reducible (repeat first | exact bR _ _ | assumption | exact ho (by assumption) | refine bD ?_ | refine bN ?_ _ | refine bA ?_ ?_ _ | refine bS ?_ ?_ _) <;> (first | omega | (simp <;> omega))) (by repeat (first | exact Blk.newAt (by (first | omega | (simp only [World.size_alloc, sz_set, sz_drew, sz_drewN]; done) | (simp only [World.size_alloc, sz_set, sz_drew, sz_drewN]; omega))) | (with_reducible refine Blk.alloc ?_ _) | (with_reducible refine Blk.drew ?_) | (with_reducible refine Blk.drewN ?_ _) | (with_reducible refine Blk.belowB ?_ (Hid.out (by assumption)) ?szk; case szk => (first | omega | (simp only [World.size_alloc, sz_set, sz_drew, sz_drewN]; done) | (simp only [World.size_alloc, sz_set, sz_drew, sz_drewN]; omega))))) (by repeat (first | exact Blk.newAt (by (first | omega | (simp only [World.size_alloc, sz_set, sz_drew, sz_drewN]; done) | (simp only [World.size_alloc, sz_set, sz_drew, sz_drewN]; omega))) | (with_reducible refine Blk.alloc ?_ _) | (with_reducible refine Blk.drew ?_) | (with_reducible refine Blk.drewN ?_ _) | (with_reducible refine Blk.belowB ?_ (Hid.out (by assumption)) ?szk; case szk => (first | omega | (simp only [World.size_alloc, sz_set, sz_drew, sz_drewN]; done) | (simp only [World.size_alloc, sz_set, sz_drew, sz_drewN]; omega))))) (by repeat (first | exact Blk.newAt (by (first | omega | (simp only [World.size_alloc, sz_set, sz_drew, sz_drewN]; done) | (simp only [World.size_alloc, sz_set, sz_drew, sz_drewN]; omega))) | (with_reducible refine Blk.alloc ?_ _) | (with_reducible refine Blk.drew ?_) | (with_reducible refine Blk.drewN ?_ _) | (with_reducible refine Blk.belowB ?_ (Hid.out (by assumption)) ?szk; case szk => (first | omega | (simp only [World.size_alloc, sz_set, sz_drew, sz_drewN]; done) | (simp only [World.size_alloc, sz_set, sz_drew, sz_drewN]; omega)))))) ?_)
  rintro e w3 ⟨ao, c, rfl, hO, hb⟩
  have HO := Lib.hid hO
  clear hO
  have hb3 : w.heap.size + 1 + 1 + 1 < w2.heap.size := q3_w2
  obtain ⟨hc_w3, hf_w3⟩ := bcell hb
  have HB_w3 : Hid (Below w.heap.size w w3) := Lib.hid (below_step (by with_reducible (repeat first | exact bR _ _ | assumption | exact ho (by assumption) | refine bD ?_ | refine bN ?_ _ | refine bA ?_ ?_ _ | refine bS ?_ ?_ _) <;> (first | omega | (simp <;> omega))) hb)
  have hs_w3 := hb.size
  try simp only [World.size_alloc, sz_set, sz_drew, sz_drewN] at hs_w3
  have q0_w3 : w.heap.size < w3.heap.size := by omega
  have q1_w3 : w.heap.size + 1 < w3.heap.size := by omega
  have q2_w3 : w.heap.size + 1 + 1 < w3.heap.size := by omega
  have q3_w3 : w.heap.size + 1 + 1 + 1 < w3.heap.size := by omega
  have HK_w3 := Lib.hid hb
  clear hb
  go_wp2
  refine bodyPost_ret (v := .tuple #[.agg #[.int .i64 lv, .bool sp, .slice ao m c], .int .i64 0]) (by simp [results, Tryz.results38, go_sem, hc_w3, hc_w2, q3_w2, q3_w3]) rfl ⟨⟨ao, c, ?_, ?_⟩, (by with_reducible (repeat first | exact bR _ _ | assumption | exact ho (by assumption) | refine bD ?_ | refine bN ?_ _ | refine bA ?_ ?_ _ | refine bS ?_ ?_ _) <;> (first | omega | (simp <;> omega)))⟩
  · unfold El.val; rw [HEl.out, HEs.out, HR.out, mkRows_len]
  · rw [HR.out, mkRows_len]
    exact (HO.out.turn (S := [w.heap.size + 1 + 1 + 1]) ((((Turn.refl w3 [w.heap.size + 1 + 1 + 1]).setCell (p := ⟨w.heap.size + 1 + 1 + 1, 0, none⟩) (.inl (by simp)) _).setCell (p := ⟨w.heap.size + 1 + 1 + 1, 1, none⟩) (.inl (by simp)) _).setCell (p := ⟨w.heap.size + 1 + 1 + 1, 2, none⟩) (.inl (by simp)) _) (fun x hx => by simp at hx; omega)).mono (by omega)
end Go.Proofs.YtcipjbckcnkfaaaGreat

namespace Go.Proofs.YtcipjbckcnkfaaaGreat
open Go.RowKit Go.Shelf
attribute [local go_sem ↓] Go.wp_at_zero Go.wp_at_succ

/-- The element that a closure captured. -/
structure OneAt (w : World) (ba lv m n : Nat) (sp : Bool) (A : El) (aa : Option Addr) (cA : Nat) : Prop where
  a : Blk w ba 54 #[.int .i64 lv, .bool sp, .slice aa m cA]
  ra : RdR w aa A.rows
  la : A.rows.length = m
  na : ∀ i, i < m → (A.row i).length = n
/-- What is read of it for a coefficient. -/
theorem OneAt.read {w : World} {ba lv m n : Nat} {sp : Bool} {A : El} {aa : Option Addr} {cA : Nat} (h : OneAt w ba lv m n sp A aa cA) {i j : Nat} (hi : i < m) (hj : j < n) :
    ∃ b1 o1 b3 o3 r3, aa = some ⟨b1, o1, none⟩ ∧ w.cell? ⟨ba, 2, none⟩ = some (.slice aa m cA) ∧ w.cell? ⟨b1, o1 + i, none⟩ = some (.slice (some ⟨b3, o3, none⟩) n r3) ∧ w.cell? ⟨b3, o3 + j, none⟩ = some (.int .u32 (A.get i j : Int)) := by
  obtain ⟨b1, o1, rfl, h1⟩ := h.ra i (by rw [h.la]; exact hi)
  obtain ⟨r1, c1, d1, e1, _⟩ := h1 i (by rw [h.la]; exact hi)
  have n1 : (A.rows.getD i []).length = n := h.na i hi
  obtain ⟨b3, o3, rfl, h3⟩ := e1 j (by rw [n1]; exact hj)
  rw [n1] at d1
  exact ⟨b1, o1, b3, o3, c1, rfl, h.a.cell 2, d1, h3 j (by rw [n1]; exact hj)⟩
theorem enters_mulInt1 : ∀ args w, (callFunc 91 args).run Tryz.prog w = .ok (.enter 91 args) w := enters_of Tryz.func91 (by kernel_rfl) rfl
theorem resid_tmod {k : Int} {x : Nat} (hx : 0 < x) : (k.tmod (x : Int) + (x : Int)) % (x : Int) = (resid k x : Int) := by
  rw [resid_int hx]
  have := Int.mul_tdiv_add_tmod k x
  have e : k.tmod (x : Int) + (x : Int) = k + x * (1 - k.tdiv x) := by rw [Int.mul_sub]; omega
  rw [e, Int.add_mul_emod_self_left]
theorem tmod_bd {k : Int} {x : Nat} (hx : 0 < x) : -(x : Int) < k.tmod (x : Int) ∧ k.tmod (x : Int) < x := by
  have h1 := Int.lt_tmod_of_pos k (show (0 : Int) < (x : Int) by omega)
  have h2 := Int.tmod_lt_of_pos k (show (0 : Int) < (x : Int) by omega)
  exact ⟨h1, h2⟩

set_option maxHeartbeats 6400000 in
set_option maxRecDepth 100000 in
theorem mulInt1_walk (bn ba lv m n g i x : Nat) (k : Int) (sp : Bool) (A : El) (aa : Option Addr) (cA : Nat) (w : World) (hg : RowB w g (List.replicate n 0)) (hn : n ≤ 32) (hi : i < m) (hx : 0 < x) (hx2 : x ≤ 2147483647) (hk1 : -9223372036854775808 ≤ k) (hk2 : k ≤ 9223372036854775807)
    (hv : ∀ j, j < n → A.get i j < x) (hW : ∃ w0, Below w0.heap.size w0 w ∧ OneAt w0 ba lv m n sp A aa cA ∧ Blk w0 bn 2 #[.int .i64 k] ∧ w0.heap.size ≤ g) :
    Calls Tryz.prog 91 #[.int .i64 i, .int .u64 x, .slice (some ⟨g, 0, none⟩) n n, .pointer (some ⟨bn, 0, none⟩), .pointer (some ⟨ba, 0, none⟩)] w fun e w' => e = .returned (.tuple #[]) ∧ RowB w' g ((List.range n).map fun j => A.get i j * resid k x % x) ∧ Turn w w' [g] := by
  obtain ⟨w0, hb0, hT0, hbn, hg0⟩ := hW
  have HR : Hid (∀ w', Turn w w' [g] → Below w0.heap.size w0 w') := Lib.hid (fun w' ht => hb0.trans (ht.belowN hb0.size (fun k hk => by simp at hk; omega)))
  have HT0 := Lib.hid hT0
  have cn : w.cell? ⟨bn, 0, none⟩ = some (.int .i64 k) := (hbn.below hb0).cell 0
  have hc1 := resid_tmod (k := k) hx
  have hc2 := tmod_bd (k := k) hx
  have hcl := resid_lt (n := k) hx
  obtain ⟨r0, hr0⟩ : ∃ r0, k.tmod (x : Int) = r0 := ⟨_, rfl⟩
  obtain ⟨c, hc⟩ : ∃ c, resid k x = c := ⟨_, rfl⟩
  rw [hr0] at hc1 hc2
  rw [hc] at hc1 hcl
  obtain ⟨s, hs⟩ : ∃ s : Nat, r0 + (x : Int) = (s : Int) := ⟨(r0 + x).toNat, by omega⟩
  rw [hs] at hc1
  have hs2 : s < 2 * x := by omega
  have hcm : (s : Int).tmod (x : Int) = (c : Int) := by rw [Int.tmod_eq_emod_of_nonneg (by omega)]; exact hc1
  obtain ⟨f, hf⟩ : ∃ f : Nat → Nat, (fun j => A.get i j * c % x) = f := ⟨_, rfl⟩
  have HF : Hid (∀ j, f j = A.get i j * c % x) := Lib.hid (fun j => by rw [← hf])
  rw [hc, hf]
  rw [← rowAt_zero n f] at hg
  have HG := Lib.hid hg
  have HV := Lib.hid hv
  have hv1 : IntKind.i64.wrap r0 = r0 := IntWalk.i64_in _ (by omega)
  have hv2 : IntKind.i64.wrap (x : Int) = (x : Int) := IntWalk.i64_in _ (by omega)
  have hv3 : IntKind.i64.wrap (s : Int) = (s : Int) := IntWalk.i64_in _ (by omega)
  have hv4 : IntKind.i64.wrap (c : Int) = (c : Int) := IntWalk.i64_in _ (by omega)
  have hv5 : IntKind.u64.wrap (c : Int) = (c : Int) := IntWalk.u64_in _ (by omega)
  have hxz : ¬ x = 0 := by omega
  clear hg hb0 hT0 hf hv hg0 hbn hc hs2
  go_enter Tryz.func91, Tryz.ntmps91
  go_wp2
  clear hv1 hv2 hv3 hv4 hr0 hs hc1 hc2 hcm cn
  go_loopg [23] n (fun fu v wr => ∃ j : Nat, v = .int .i64 j ∧ j ≤ n ∧ n - j ≤ fu ∧ Hid (RowB wr g (rowAt n f j)) ∧ Hid (Turn w wr [g]))
  case atStart => exact ⟨0, rfl, by omega, by omega, HG, Lib.hid (Turn.refl _ _)⟩
  case round =>
    obtain ⟨j, rfl, hj, hfu, HRo, HTu⟩ := hrel
    by_cases hjl : j < n
    case neg =>
      obtain rfl : j = n := by omega
      go_wp2
      refine bodyPost_end (results_none rfl _ _ _) rfl ?_
      exact ⟨rfl, by have := HRo.out; rw [rowAt_full] at this; exact this, HTu.out⟩
    obtain ⟨b1, o1, b3, o3, r3, rfl, t1, t3, t5⟩ := HT0.out.read hi hjl
    have hv := HV.out j hjl
    have hfj := HF.out j
    obtain ⟨xa, hxa⟩ : ∃ xa, A.get i j = xa := ⟨_, rfl⟩
    rw [hxa] at t5 hv hfj
    have t : ∀ {a : Addr} {v : Value}, w0.cell? a = some v → wr.cell? a = some v := fun {a v} h => ((HR.out wr HTu.out).cell (World.block_lt_of_cell? w0 _ h)).trans h
    have u1 := t t1
    have u3 := t t3
    have u5 := t t5
    have hzb : xa * c ≤ 2147483647 * 2147483647 := Nat.mul_le_mul (by omega) (by omega)
    obtain ⟨z, hz⟩ : ∃ z, xa * c = z := ⟨_, rfl⟩
    rw [hz] at hzb hfj
    have hzi : (xa : Int) * (c : Int) = (z : Int) := by rw [← hz]; simp
    obtain ⟨v, hvv⟩ : ∃ v, z % x = v := ⟨_, rfl⟩
    have htb : v < x := by rw [← hvv]; exact Nat.mod_lt _ (by omega)
    rw [hvv] at hfj
    have hti : (z : Int) % (x : Int) = (v : Int) := by rw [← hvv]; simp
    have htm : (z : Int).tmod (x : Int) = (v : Int) := by rw [Int.tmod_eq_emod_of_nonneg (by omega)]; exact hti
    have i0 : (0 : Int) ≤ (i : Int) := Int.natCast_nonneg _
    have i1 : (i : Int) < (m : Int) := by omega
    have j0 : (0 : Int) ≤ (j : Int) := Int.natCast_nonneg _
    have j1 : (j : Int) < (n : Int) := by omega
    have cg := HRo.out.cellAt hjl
    have fg : wr.frozen? ⟨g, j, none⟩ = false := Blk.free HRo.out j
    have hw1 : IntKind.u64.wrap (xa : Int) = (xa : Int) := IntWalk.u64_in _ (by omega)
    have hw2 : IntKind.u64.wrap (z : Int) = (z : Int) := IntWalk.u64_in _ (by omega)
    have hw3 : IntKind.u64.wrap (v : Int) = (v : Int) := IntWalk.u64_in _ (by omega)
    have hw4 : IntKind.u32.wrap (v : Int) = (v : Int) := IntWalk.u32_in _ (by omega)
    have HRs : Hid (∀ k, RowB ((wr.drewN k).setCell ⟨g, j, none⟩ (.int .u32 (v : Int))) g (rowAt n f (j + 1))) := Lib.hid (fun k => by rw [← hfj]; exact RowB.step (HRo.out : RowB (wr.drewN k) g _) hjl)
    have HTs : Hid (∀ k, Turn w ((wr.drewN k).setCell ⟨g, j, none⟩ (.int .u32 (v : Int))) [g]) := Lib.hid (fun k => (HTu.out.drewN k).setCell (p := ⟨g, j, none⟩) (.inl (by simp)) _)
    clear t1 t3 t5 hz hvv hxa hfj t
    go_wp2
    all_goals (
      go_roundg (n - (j + 1))
      case measure => omega
      case rel => exact ⟨j + 1, by go_num, by omega, Nat.le_refl _, Lib.hid (HRs.out 0), Lib.hid (HTs.out 0)⟩)
end Go.Proofs.YtcipjbckcnkfaaaGreat
