/- The program's Tensor: its parts. -/
import Derived.Test.YtcipjbckcnkfaaaGreatPs41
set_option linter.unusedSimpArgs false
set_option linter.unusedVariables false
namespace Go.Proofs.YtcipjbckcnkfaaaGreat
open Go.RowKit Go.Shelf
attribute [local go_sem ↓] Go.wp_at_zero Go.wp_at_succ

theorem mkEl_ok {p : Par} (hg : Good p) {level : Int} {sp : Bool} (hpl : PlaceOk p level sp) {f : Nat → Nat → Nat} (hf : ∀ i, i < (p.qs level sp).length → ∀ j, j < p.n.toNat → f i j < (p.qs level sp).getD i 0) : ElOk p ⟨level, sp, mkRows (p.qs level sp).length p.n.toNat f⟩ := by
  have hn := hg.n
  refine ⟨hpl, mkRows_len _ _ _, fun i hi => ?_⟩
  have hi' : i < (p.qs level sp).length := by simp only at hi; rw [mkRows_len] at hi; exact hi
  have hl : ((mkRows (p.qs level sp).length p.n.toNat f).getD i []) = (List.range p.n.toNat).map (f i) := mkRows_row hi'
  have hl2 : (El.row ⟨level, sp, mkRows (p.qs level sp).length p.n.toNat f⟩ i).length = p.n.toNat := by unfold El.row; simp only; rw [hl]; simp
  refine ⟨by rw [hl2]; omega, fun j hj => ?_⟩
  rw [hl2] at hj
  unfold El.get El.row
  simp only
  rw [hl, range_get hj]
  exact hf i hi' j hj
theorem mulEl_ok {p : Par} (hg : Good p) {A B : El} (h : Match p A B) : ElOk p (mulEl p A B) := mkEl_ok hg h.a.1 (fun i hi j hj => nc_lt (by have := hg.qs hi; omega))
theorem sumEl_ok {p : Par} (hg : Good p) {A B : El} {k : Int} (h : Match p A B) : ElOk p (sumEl p A B k) := mkEl_ok hg h.a.1 (fun i hi j hj => Nat.mod_lt _ (by have := hg.qs hi; omega))
theorem scaleEl_ok {p : Par} (hg : Good p) {A : El} {k : Int} (h : ElOk p A) : ElOk p (scaleEl p A k) := mkEl_ok hg h.1 (fun i hi j hj => Nat.mod_lt _ (by have := hg.qs hi; omega))
/-- The parts of a product. -/
def tensF (p : Par) (A B : Ci) (i : Nat) : El := if i = 1 then sumEl p (mulEl p (A.part 0) (B.part 1)) (mulEl p (A.part 1) (B.part 0)) 1 else mulEl p (A.part (i / 2)) (B.part (i / 2))
theorem CiMatch.part {p : Par} {A B : Ci} (h : CiMatch p A B) {i j : Nat} (hi : i < A.parts.length) (hj : j < B.parts.length) : Match p (A.part i) (B.part j) := by
  obtain ⟨h1, h2, h3, h4⟩ := h
  obtain ⟨a1, a2, a3⟩ := h1.2.2 i hi
  obtain ⟨b1, b2, b3⟩ := h2.2.2 j hj
  exact ⟨a1, b1, by rw [b2, a2, h3], by rw [b3, a3]⟩
/-- What the closure of Tensor captured. -/
structure TensAt (w : World) (pb ba bb : Nat) (p : Par) (ca : Option Addr) (cc : Nat) (A B : Ci) (aa ab : Option Addr) (cA cB : Nat) : Prop where
  hp : Blk w pb 25 (p.cells ca cc)
  ha : Blk w ba 28 #[.int .i64 A.level, .int .i64 A.exponent, .slice aa A.parts.length cA]
  hb : Blk w bb 28 #[.int .i64 B.level, .int .i64 B.exponent, .slice ab B.parts.length cB]
  hin : ParIn w p ca cc
  ra : RdE w aa A.parts
  rb : RdE w ab B.parts
theorem TensAt.below {w w' : World} {pb ba bb : Nat} {p : Par} {ca : Option Addr} {cc : Nat} {A B : Ci} {aa ab : Option Addr} {cA cB : Nat} (h : TensAt w pb ba bb p ca cc A B aa ab cA cB) (hb : Below w.heap.size w w') : TensAt w' pb ba bb p ca cc A B aa ab cA cB :=
  ⟨h.hp.below hb, h.ha.below hb, h.hb.below hb, h.hin.below hb, h.ra.below hb, h.rb.below hb⟩
theorem enters_tensor1 : ∀ args w, (callFunc 37 args).run Tryz.prog w = .ok (.enter 37 args) w := enters_of Tryz.func37 (by kernel_rfl) rfl

set_option maxHeartbeats 6400000 in
set_option maxRecDepth 100000 in
theorem tensor1_side (pb ba bb j i : Nat) (p : Par) (ca : Option Addr) (cc : Nat) (A B : Ci) (aa ab : Option Addr) (cA cB : Nat) (w : World) (hT : TensAt w pb ba bb p ca cc A B aa ab cA cB) (hg : Good p) (hM : CiMatch p A B) (ha2 : A.parts.length = 2) (hb2 : B.parts.length = 2) (hi : i = 2 * j) (hj : j < 2) :
    Calls Tryz.prog 37 #[.int .i64 (i : Int), .pointer (some ⟨pb, 0, none⟩), .pointer (some ⟨ba, 0, none⟩), .pointer (some ⟨bb, 0, none⟩)] w fun e w' => PutEl w.heap.size (mulEl p (A.part j) (B.part j)) e w' ∧ Below w.heap.size w w' := by
  obtain ⟨b1, o1, rfl, hA⟩ := hT.ra 0 (by omega)
  obtain ⟨r1, c1, x0, x1, x2, x3, _⟩ := hA j (by omega)
  obtain ⟨b2, o2, rfl, hB⟩ := hT.rb 0 (by omega)
  obtain ⟨r2, c2, y0, y1, y2, y3, _⟩ := hB j (by omega)
  have eA : A.parts.getD j ⟨0, false, []⟩ = A.part j := rfl
  have eB : B.parts.getD j ⟨0, false, []⟩ = B.part j := rfl
  rw [eA] at x0 x1 x2 x3
  rw [eB] at y0 y1 y2 y3
  have hMj := hM.part (i := j) (j := j) (by omega) (by omega)
  have H1 := Lib.hid (fun (w' : World) (hb : Below w.heap.size w w') => rgMul_walk p ca cc (A.part j) (B.part j) r1 r2 c1 c2 w' (hT.hin.below hb) hg hMj (x3.below hb) (y3.below hb))
  obtain ⟨cp0, cp1, cp2, cp3, cp4, cp5, cp6⟩ := par_cells hT.hp
  have ca2 : w.cell? ⟨ba, 2, none⟩ = some (.slice (some ⟨b1, o1, none⟩) 2 cA) := by have := hT.ha.cell 2; rw [this, ha2]; rfl
  have cb2 : w.cell? ⟨bb, 2, none⟩ = some (.slice (some ⟨b2, o2, none⟩) 2 cB) := by have := hT.hb.cell 2; rw [this, hb2]; rfl
  obtain ⟨E, hE⟩ : ∃ E, mulEl p (A.part j) (B.part j) = E := ⟨_, rfl⟩
  rw [hE] at H1 ⊢
  have q1 : ((i : Int) != 1) = true := by simp; omega
  have hdiv : (i : Int) / 2 = (j : Int) := by omega
  have hdiv2 : (i : Int).tdiv 2 = (j : Int) := by rw [Int.tdiv_eq_ediv_of_nonneg (by omega)]; exact hdiv
  have hwj : IntKind.i64.wrap (j : Int) = (j : Int) := IntWalk.i64_in _ (by omega)
  have j0 : (0 : Int) ≤ (j : Int) := Int.natCast_nonneg _
  have j1 : (j : Int) < 2 := by omega
  unfold PutEl El.val Par.cells at *
  have HSK : Hid (∀ w', Below w.heap.size w w' → w'.cell? ⟨pb, 0, none⟩ = some (.int .i64 p.n) ∧ w'.cell? ⟨pb, 1, none⟩ = some (.int .u32 (p.prime : Int)) ∧ w'.cell? ⟨pb, 2, none⟩ = some (.int .i64 p.power) ∧ w'.cell? ⟨pb, 3, none⟩ = some (.slice ca p.chain.length cc) ∧ w'.cell? ⟨pb, 4, none⟩ = some (.int .u32 (p.special : Int)) ∧ w'.cell? ⟨pb, 5, none⟩ = some (.int .i64 p.weight) ∧ w'.cell? ⟨pb, 6, none⟩ = some (.int .u32 (p.err : Int)) ∧ w'.cell? ⟨ba, 2, none⟩ = some (.slice (some ⟨b1, o1, none⟩) 2 cA) ∧ w'.cell? ⟨bb, 2, none⟩ = some (.slice (some ⟨b2, o2, none⟩) 2 cB) ∧ w'.cell? ⟨b1, o1 + j * 3, none⟩ = some (.int .i64 (A.part j).level) ∧ w'.cell? ⟨b1, o1 + j * 3 + 1, none⟩ = some (.bool (A.part j).special) ∧ w'.cell? ⟨b1, o1 + j * 3 + 2, none⟩ = some (.slice r1 (A.part j).rows.length c1) ∧ w'.cell? ⟨b2, o2 + j * 3, none⟩ = some (.int .i64 (B.part j).level) ∧ w'.cell? ⟨b2, o2 + j * 3 + 1, none⟩ = some (.bool (B.part j).special) ∧ w'.cell? ⟨b2, o2 + j * 3 + 2, none⟩ = some (.slice r2 (B.part j).rows.length c2)) := Lib.hid (fun w' hb => by
    have t : ∀ {a : Addr} {v : Value}, w.cell? a = some v → w'.cell? a = some v := fun {a v} h => (hb.cell (World.block_lt_of_cell? w _ h)).trans h
    exact ⟨t cp0, t cp1, t cp2, t cp3, t cp4, t cp5, t cp6, t ca2, t cb2, t x0, t x1, t x2, t y0, t y1, t y2⟩)
  clear hT hg hM ha2 hb2 hA hB x0 x1 x2 x3 y0 y1 y2 y3 hMj cp0 cp1 cp2 cp3 cp4 cp5 cp6 ca2 cb2 hE eA eB
  go_enter Tryz.func37, Tryz.ntmps37
  go_wp2
  have hS : (fun w' : World => w'.cell? ⟨pb, 0, none⟩ = some (.int .i64 p.n) ∧ w'.cell? ⟨pb, 1, none⟩ = some (.int .u32 (p.prime : Int)) ∧ w'.cell? ⟨pb, 2, none⟩ = some (.int .i64 p.power) ∧ w'.cell? ⟨pb, 3, none⟩ = some (.slice ca p.chain.length cc) ∧ w'.cell? ⟨pb, 4, none⟩ = some (.int .u32 (p.special : Int)) ∧ w'.cell? ⟨pb, 5, none⟩ = some (.int .i64 p.weight) ∧ w'.cell? ⟨pb, 6, none⟩ = some (.int .u32 (p.err : Int)) ∧ w'.cell? ⟨ba, 2, none⟩ = some (.slice (some ⟨b1, o1, none⟩) 2 cA) ∧ w'.cell? ⟨bb, 2, none⟩ = some (.slice (some ⟨b2, o2, none⟩) 2 cB) ∧ w'.cell? ⟨b1, o1 + j * 3, none⟩ = some (.int .i64 (A.part j).level) ∧ w'.cell? ⟨b1, o1 + j * 3 + 1, none⟩ = some (.bool (A.part j).special) ∧ w'.cell? ⟨b1, o1 + j * 3 + 2, none⟩ = some (.slice r1 (A.part j).rows.length c1) ∧ w'.cell? ⟨b2, o2 + j * 3, none⟩ = some (.int .i64 (B.part j).level) ∧ w'.cell? ⟨b2, o2 + j * 3 + 1, none⟩ = some (.bool (B.part j).special) ∧ w'.cell? ⟨b2, o2 + j * 3 + 2, none⟩ = some (.slice r2 (B.part j).rows.length c2)) (w.alloc (.cells #[.int .i64 0, .bool false, .slice none 0 0] 54)).drew := HSK.out _ (by with_reducible (repeat first | exact bR _ _ | assumption | exact ho (by assumption) | refine bD ?_ | refine bN ?_ _ | refine bA ?_ ?_ _ | refine bS ?_ ?_ _) <;> (first | omega | (simp <;> omega)))
  refine wp_region_L (fun w' => w'.cell? ⟨pb, 0, none⟩ = some (.int .i64 p.n) ∧ w'.cell? ⟨pb, 1, none⟩ = some (.int .u32 (p.prime : Int)) ∧ w'.cell? ⟨pb, 2, none⟩ = some (.int .i64 p.power) ∧ w'.cell? ⟨pb, 3, none⟩ = some (.slice ca p.chain.length cc) ∧ w'.cell? ⟨pb, 4, none⟩ = some (.int .u32 (p.special : Int)) ∧ w'.cell? ⟨pb, 5, none⟩ = some (.int .i64 p.weight) ∧ w'.cell? ⟨pb, 6, none⟩ = some (.int .u32 (p.err : Int)) ∧ w'.cell? ⟨ba, 2, none⟩ = some (.slice (some ⟨b1, o1, none⟩) 2 cA) ∧ w'.cell? ⟨bb, 2, none⟩ = some (.slice (some ⟨b2, o2, none⟩) 2 cB) ∧ w'.cell? ⟨b1, o1 + j * 3, none⟩ = some (.int .i64 (A.part j).level) ∧ w'.cell? ⟨b1, o1 + j * 3 + 1, none⟩ = some (.bool (A.part j).special) ∧ w'.cell? ⟨b1, o1 + j * 3 + 2, none⟩ = some (.slice r1 (A.part j).rows.length c1) ∧ w'.cell? ⟨b2, o2 + j * 3, none⟩ = some (.int .i64 (B.part j).level) ∧ w'.cell? ⟨b2, o2 + j * 3 + 1, none⟩ = some (.bool (B.part j).special) ∧ w'.cell? ⟨b2, o2 + j * 3 + 2, none⟩ = some (.slice r2 (B.part j).rows.length c2)) 18 (by kernel_rfl) (by kernel_rfl) (by kernel_rfl) ?_
  refine tJ 0 (v := ?_) (by assumption) ?_ ?_
  rotate_left
  · (intro w h; (try dsimp only at h); go_simp; try with_reducible rfl)
  try simp only [Act.put, gA, gB, gC, sA, sB, sC]
  refine tJ 1 (v := ?_) (by assumption) ?_ ?_
  rotate_left
  · (intro w h; (try dsimp only at h); go_simp; try with_reducible rfl)
  try simp only [Act.put, gA, gB, gC, sA, sB, sC]
  refine tJ 2 (v := ?_) (by assumption) ?_ ?_
  rotate_left
  · (intro w h; (try dsimp only at h); go_simp; try with_reducible rfl)
  try simp only [Act.put, gA, gB, gC, sA, sB, sC]
  refine tJ 3 (v := ?_) (by assumption) ?_ ?_
  rotate_left
  · (intro w h; (try dsimp only at h); go_simp; try with_reducible rfl)
  try simp only [Act.put, gA, gB, gC, sA, sB, sC]
  refine tJ 4 (v := ?_) (by assumption) ?_ ?_
  rotate_left
  · (intro w h; (try dsimp only at h); go_simp; try with_reducible rfl)
  try simp only [Act.put, gA, gB, gC, sA, sB, sC]
  refine tJ 5 (v := ?_) (by assumption) ?_ ?_
  rotate_left
  · (intro w h; (try dsimp only at h); go_simp; try with_reducible rfl)
  try simp only [Act.put, gA, gB, gC, sA, sB, sC]
  refine tJ 6 (v := ?_) (by assumption) ?_ ?_
  rotate_left
  · (intro w h; (try dsimp only at h); go_simp; try with_reducible rfl)
  try simp only [Act.put, gA, gB, gC, sA, sB, sC]
  refine tJ 7 (v := ?_) (by assumption) ?_ ?_
  rotate_left
  · (intro w h; (try dsimp only at h); go_simp; try with_reducible rfl)
  try simp only [Act.put, gA, gB, gC, sA, sB, sC]
  refine tJ 8 (v := ?_) (by assumption) ?_ ?_
  rotate_left
  · (intro w h; (try dsimp only at h); go_simp; try with_reducible rfl)
  try simp only [Act.put, gA, gB, gC, sA, sB, sC]
  refine tJ 9 (v := ?_) (by assumption) ?_ ?_
  rotate_left
  · (intro w h; (try dsimp only at h); go_simp; try with_reducible rfl)
  try simp only [Act.put, gA, gB, gC, sA, sB, sC]
  refine tJ 10 (v := ?_) (by assumption) ?_ ?_
  rotate_left
  · (intro w h; (try dsimp only at h); go_simp; try with_reducible rfl)
  try simp only [Act.put, gA, gB, gC, sA, sB, sC]
  refine tJ 11 (v := ?_) (by assumption) ?_ ?_
  rotate_left
  · (intro w h; (try dsimp only at h); go_simp; try with_reducible rfl)
  try simp only [Act.put, gA, gB, gC, sA, sB, sC]
  refine tJ 12 (v := ?_) (by assumption) ?_ ?_
  rotate_left
  · (intro w h; (try dsimp only at h); go_simp; try with_reducible rfl)
  try simp only [Act.put, gA, gB, gC, sA, sB, sC]
  refine wpL.eff 13 rfl (by kernel_rfl) rfl ?_
  intro K hK
  go_wp2_with fail
  (with_reducible refine Calls.mono (H1.out _ (by with_reducible (repeat first | exact bR _ _ | assumption | exact ho (by assumption) | refine bD ?_ | refine bN ?_ _ | refine bA ?_ ?_ _ | refine bS ?_ ?_ _) <;> (first | omega | (simp <;> omega)))) ?_)
  rintro e w2 ⟨⟨ao, c, rfl, hO⟩, hb⟩
  have HO := Lib.hid hO
  have hb2 : Blk w2 w.heap.size 54 #[.int .i64 0, .bool false, .slice none 0 0] := Blk.below (by repeat (first | exact Blk.newAt (by (first | omega | (simp only [World.size_alloc, sz_set, sz_drew, sz_drewN]; done) | (simp only [World.size_alloc, sz_set, sz_drew, sz_drewN]; omega))) | (with_reducible refine Blk.alloc ?_ _) | (with_reducible refine Blk.drew ?_) | (with_reducible refine Blk.drewN ?_ _) | (with_reducible refine Blk.belowB ?_ (Hid.out (by assumption)) ?szk; case szk => (first | omega | (simp only [World.size_alloc, sz_set, sz_drew, sz_drewN]; done) | (simp only [World.size_alloc, sz_set, sz_drew, sz_drewN]; omega))))) hb
  obtain ⟨hc_w2, hf_w2⟩ := bcell hb
  have HB_w2 : Hid (Below w.heap.size w w2) := Lib.hid (below_step (by with_reducible (repeat first | exact bR _ _ | assumption | exact ho (by assumption) | refine bD ?_ | refine bN ?_ _ | refine bA ?_ ?_ _ | refine bS ?_ ?_ _) <;> (first | omega | (simp <;> omega))) hb)
  have hs_w2 := hb.size
  try simp only [World.size_alloc, sz_set, sz_drew, sz_drewN] at hs_w2
  have q0_w2 : w.heap.size < w2.heap.size := by omega
  have HK_w2 := Lib.hid hb
  clear hb
  obtain ⟨k0, k1, k2⟩ := el_cells hb2
  have f0 := hb2.free 0
  have f1 := hb2.free 1
  have f2 := hb2.free 2
  clear hO hb2
  refine hK _ _ (HSK.out _ (by with_reducible (repeat first | exact bR _ _ | assumption | exact ho (by assumption) | refine bD ?_ | refine bN ?_ _ | refine bA ?_ ?_ _ | refine bS ?_ ?_ _) <;> (first | omega | (simp <;> omega)))) (fun hS => ?_)
  clear hK
  try simp only [Act.put, gA, gB, gC, sA, sB, sC]
  refine tJ 14 (v := ?_) (by assumption) ?_ ?_
  rotate_left
  · (intro w h; (try dsimp only at h); go_simp; try with_reducible rfl)
  try simp only [Act.put, gA, gB, gC, sA, sB, sC]
  refine tJ 15 (v := ?_) (by assumption) ?_ ?_
  rotate_left
  · (intro w h; (try dsimp only at h); go_simp; try with_reducible rfl)
  try simp only [Act.put, gA, gB, gC, sA, sB, sC]
  refine wpL.eff 16 rfl (by kernel_rfl) rfl ?_
  intro K hK
  go_wp2
  refine hK _ _ (HSK.out _ (by with_reducible (repeat first | exact bR _ _ | assumption | exact ho (by assumption) | refine bD ?_ | refine bN ?_ _ | refine bA ?_ ?_ _ | refine bS ?_ ?_ _) <;> (first | omega | (simp <;> omega)))) (fun hS => ?_)
  clear hK
  try simp only [Act.put, gA, gB, gC, sA, sB, sC]
  refine tJ 17 (v := ?_) (by assumption) ?_ ?_
  rotate_left
  · (intro w h; (try dsimp only at h); go_simp; try with_reducible rfl)
  try simp only [Act.put, gA, gB, gC, sA, sB, sC]
  refine wpL.done (by kernel_rfl) ?_
  go_wp2
  refine bodyPost_ret (v := .tuple #[.agg #[.int .i64 E.level, .bool E.special, .slice ao E.rows.length c], .int .i64 0]) (by simp [results, Tryz.results37, go_sem, k0, k1, k2]) rfl ⟨⟨ao, c, rfl, ?_⟩, (by with_reducible (repeat first | exact bR _ _ | assumption | exact ho (by assumption) | refine bD ?_ | refine bN ?_ _ | refine bA ?_ ?_ _ | refine bS ?_ ?_ _) <;> (first | omega | (simp <;> omega)))⟩
  exact (HO.out.turn (S := [w.heap.size]) ((((Turn.refl w2 _).setCell (p := ⟨w.heap.size, 0, none⟩) (.inl (by simp)) _).setCell (p := ⟨w.heap.size, 1, none⟩) (.inl (by simp)) _).setCell (p := ⟨w.heap.size, 2, none⟩) (.inl (by simp)) _) (fun x hx => by (try simp only [List.mem_singleton, World.size_alloc, sz_drew] at hx ⊢); omega)).mono (by (first | omega | (simp only [World.size_alloc, sz_set, sz_drew, sz_drewN]; done) | (simp only [World.size_alloc, sz_set, sz_drew, sz_drewN]; omega)))
end Go.Proofs.YtcipjbckcnkfaaaGreat
