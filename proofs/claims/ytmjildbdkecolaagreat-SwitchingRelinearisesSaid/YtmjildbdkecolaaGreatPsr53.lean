/- The reference's division by a prime, by data.
The reference's division by the special prime, by data.
The reference's Down, by data.
Rescaling: the reference's results are the program's. Plain.
Equal ciphertexts, the reference's, of equal data: by data.
The law on exponents, by data: for any results that are alike on both sides.
Sums of products of elements: what the program and its reference add is one and the same.
Valid elements among any, with the special prime or without it; lists of them.
The program's division by the special prime, by data. A DRAFT: not built.
Automorphisms of rows, as the reference writes them; digits under them. Plain.
The sum of the products of a key's parts and digits: the program, by data.
What a key makes of digits: the program, by data. -/
import Derived.Test.YtmjildbdkecolaaGreatPsr52
import Derived.Test.YtmjildbdkecolaaGreatPsr51
import Derived.Test.YtmjildbdkecolaaGreatPsr28
set_option linter.unusedSimpArgs false
set_option linter.unusedVariables false
set_option linter.unnecessarySimpa false
namespace Go.Proofs.YtmjildbdkecolaaGreat
open Go.RowKit
set_option maxRecDepth 20000
set_option maxHeartbeats 4000000
/-- What the reference's division makes of a part of level lv + 1. -/
def pre18 (p : PD) (lv b q t : Nat) (g : Nat → Nat → Nat) : Nat → Nat → Nat := sumV p lv (-1) g (mulIntV p lv (t : Int) (intV p lv (fun j => balI (g lv j * b % q) q)))
def div18 (p : PD) (lv b q t : Nat) (g : Nat → Nat → Nat) : Nat → Nat → Nat := sclV p lv (lowB p lv q) (pre18 p lv b q t g)
/-- Rows that are made up to a place. -/
def fill2 (F G : Nat → Nat → Nat) (j i r x : Nat) : Nat := if r < j ∨ (r = j ∧ x < i) then F r x else G r x
theorem fill2_0 {F G : Nat → Nat → Nat} {r x : Nat} : fill2 F G 0 0 r x = G r x := by unfold fill2; rw [if_neg (by omega)]
theorem fill2_at {F G : Nat → Nat → Nat} {i x : Nat} : fill2 F G i x i x = G i x := by unfold fill2; rw [if_neg (by omega)]
theorem fill2_all {F G : Nat → Nat → Nat} {i r x : Nat} (h : r < i) : fill2 F G i 0 r x = F r x := by unfold fill2; rw [if_pos (by omega)]
theorem fill2_row {F G : Nat → Nat → Nat} {i n r x : Nat} (h : x < n) : fill2 F G i n r x = fill2 F G (i + 1) 0 r x := by
 unfold fill2
 by_cases q : r < i ∨ (r = i ∧ x < n)
 ·rw [if_pos q, if_pos (by omega)]
 ·rw [if_neg q, if_neg (by omega)]
theorem fill2_set {F G : Nat → Nat → Nat} {i x v : Nat} (hv : v = F i x) (r y : Nat) : setG (fun k j => [.val (.int .u32 ((fill2 F G i x k j : Nat) : Int))]) i (setE (fun j => [.val (.int .u32 ((fill2 F G i x i j : Nat) : Int))]) x 0 [.val (.int .u32 ((v : Nat) : Int))]) r y = [.val (.int .u32 ((fill2 F G i (x + 1) r y : Nat) : Int))] := by
 subst hv
 unfold setG
 by_cases q : r = i
 ·subst q
  rw [if_pos rfl]
  unfold setE
  by_cases q2 : y = x
  ·subst q2
   rw [if_pos rfl]
   unfold fill2
   rw [if_pos (by omega)]; rfl
  ·rw [if_neg q2]
   have : fill2 F G r x r y = fill2 F G r (x + 1) r y := by
    unfold fill2
    by_cases q3 : y < x
    ·rw [if_pos (by omega), if_pos (by omega)]
    ·rw [if_neg (by omega), if_neg (by omega)]
   show [D.val (.int .u32 ((fill2 F G r x r y : Nat) : Int))] = _
   rw [this]
 ·rw [if_neg q]
  have : fill2 F G i x r y = fill2 F G i (x + 1) r y := by
   unfold fill2
   by_cases q3 : r < i
   ·rw [if_pos (by omega), if_pos (by omega)]
   ·rw [if_neg (by omega), if_neg (by omega)]
  show [D.val (.int .u32 ((fill2 F G i x r y : Nat) : Int))] = _
  rw [this]
open Go.RowKit
set_option maxRecDepth 20000
set_option maxHeartbeats 4000000
theorem r18DividedS_den (p : PD) (n lv t : Nat) (hL : Lv p n lv) (ht : t ≤ 2147483647) (g : Nat → Nat → Nat) (hg : Vg p lv g) (q b : Nat) (hq : q = modQ p lv lv) (hb : b = invV (resI (t : Int) q) q) :
  Den Tryz.prog 56 [.agg (parL true p), .agg (elL true lv true (lv + 1) n g), .val (.int .u32 (q : Int)), .val (.int .i64 (t : Int))] (.agg (elL false lv false lv n (div18 p lv b q t g))) := by
 refine den_intro (fn := Tryz.f56) rfl rfl rfl rfl rfl ?_
 have hN : NatIs p.n n := hL.n
 have h32 := hL.n32
 have h4 := hL.n4
 have h1 := hL.l1
 have l2 := hL.l2
 have l24 := hL.vp.len2
 have hm := modQ_in hL.vp hL.sp hL.l2
 have hm' := modQ_in hL.vp hL.sp hL.l2
 have hq2 := hm lv
 rw [← hq] at hq2
 have hgl := hg lv
 rw [← hq] at hgl
 have hvg := hg
 have hblt : b < q := by rw [hb]; exact invV_lt (by omega)
 have htl := resI_lt (x := (t : Int)) (show 0 < q by omega)
 have hbal := r18Balanced_den n q (fun j => g lv j * b % q) (by omega) (by omega) hq2.2.1 (fun j => Nat.mod_lt _ (by omega))
 have hbi : ∀ j, -9223372036854775808 ≤ balI (g lv j * b % q) q ∧ balI (g lv j * b % q) q ≤ 9223372036854775807 := fun j => by
  have := balI_in hq2.2.1 (Nat.mod_lt (g lv j * b) (show 0 < q by omega))
  omega
 have hinv := r01Inverse_den (resI (t : Int) q) q (by omega) hq2.2.1 htl
 rw [← hb] at hinv
 have hof : Den Tryz.prog 51 [.agg (parL true p), .agg [.val (.int .i64 (lv : Int)), .val (.bool false), .val (.slice none 0 0)], intsD true n (fun j => balI (g lv j * b % q) q)] (.agg (elL false lv false lv n (intV p lv (fun j => balI (g lv j * b % q) q)))) := r13Of_den p n lv false hL (.val (.slice none 0 0)) rfl _ hbi
 have hsc : Den Tryz.prog 87 [.agg (parL true p), .agg (elL true lv false lv n (intV p lv (fun j => balI (g lv j * b % q) q))), .val (.int .i64 (t : Int))] (.agg (elL false lv false lv n (mulIntV p lv (t : Int) (intV p lv (fun j => balI (g lv j * b % q) q))))) := r13Scale_den p n lv false hL _ (t : Int) (by omega) (vg_int hL _)
 have hsu : DenH Tryz.prog 88 [.agg (parL true p), .agg (elL true lv false lv n (fun k j => g (0 + k) j)), .agg (elL true lv false lv n (mulIntV p lv (t : Int) (intV p lv (fun j => balI (g lv j * b % q) q))))] [] (.agg (elM lv false 1013 lv)) [] [(1013, u32M lv n (pre18 p lv b q t g))] := by
  rw [show (fun k j => g (0 + k) j) = g by funext k j; rw [Nat.zero_add]]
  exact r13Sub_own p n lv false hL g _ hvg (vg_mulInt hL _ _)
 refine go ?_
 refine r_call (r01Of_den (t : Int) q (by omega) hq2.2.1 (by omega)) ?_
 refine go ?_
 refine r_call hinv ?_
 refine go ?_
 refine c_nil 14 1900 22 1 (fun j => [.val (.int .u32 ((g lv j * b % q : Nat) : Int))]) ?_
 refine c_up n (fun j => [(14, .sl 1900 1 j), (15, .val (.int .i64 (j : Nat)))]) (fun j => [(1900, some (.arr 22 j 1 (fun j => [.val (.int .u32 ((g lv j * b % q : Nat) : Int))])))]) (fun j hj => ?_)
 refine go ?_
 refine c_if (fun h3 => ?_) (fun h3 => ?_)
 ·refine go ?_
  refine r_callO (r01Mul_den (g lv j) b q (by omega) hq2.2.1 (hgl j) hblt) ?_
  refine go ?_
  refine ⟨h3, ?_⟩
  refine sub_arr (1000 + 67) (fun j => [.val (.int .u32 ((g lv j * b % q : Nat) : Int))]) (appF_snoc rfl) (fun _ => rfl) ?_
  refine sub_toL [64] (1000 + 67) 1900 ?_
  exact sub
 obtain rfl : j = n := by omega
 refine c_freeze 1900 ?_
 refine c_slot 14 (u32sF false j (fun j => g lv j * b % q)) ?_
 refine go ?_
 refine c_no ?_
 refine go ?_
 refine r_call hbal ?_
 refine go ?_
 refine r_call hof ?_
 refine go ?_
 refine r_call hsc ?_
 refine go ?_
 refine r_callN hsu (r' := .agg (elM lv false 1096 lv)) rfl ?_
 refine go ?_
 have hGq : ∀ i x, pre18 p lv b q t g i x < modQ p lv i := vg_sum hL _ _ _
 have hF : ∀ i x, pre18 p lv b q t g i x * lowB p lv q i % modQ p lv i = div18 p lv b q t g i x := fun i x => rfl
 clear hbal hof hsc hsu hinv hbi hgl hvg hg
 obtain ⟨G, hG⟩ : ∃ G, pre18 p lv b q t g = G := ⟨_, rfl⟩
 obtain ⟨F, hFF⟩ : ∃ F, div18 p lv b q t g = F := ⟨_, rfl⟩
 rw [hG] at hGq hF ⊢
 rw [hFF] at hF ⊢
 refine c_mat 1096 (fun k j => [.val (.int .u32 ((fill2 F G 0 0 k j : Nat) : Int))]) (fun e x he hx => by rw [fill2_0]) (fun _ _ => rfl) ?_
 refine c_up lv (fun i => [(21, .val (.int .i64 (i : Nat)))]) (fun i => [(1096, some (.mat 23 22 lv lv 1 j (fun k x => [.val (.int .u32 ((fill2 F G i 0 k x : Nat) : Int))])))]) (fun i hi => ?_)
 refine go ?_
 have hqi := hm' i
 refine c_if (fun h5 => ?_) (fun h5 => ?_)
 ·have h5' : i < lv := by omega
  have e : modQ p lv i = p.chain.getD i 0 := by unfold modQ; rw [if_pos h5']
  have hof2 := r01Of_den (q : Int) (modQ p lv i) (by omega) (by omega) (by omega)
  have hinv2 := r01Inverse_den (resI (q : Int) (modQ p lv i)) (modQ p lv i) (by omega) (by omega) (resI_lt (by omega))
  have hlw : lowB p lv q i < modQ p lv i := invV_lt (by omega)
  have hlb : invV (resI (q : Int) (modQ p lv i)) (modQ p lv i) = lowB p lv q i := rfl
  rw [hlb] at hinv2
  rw [e] at hof2 hinv2
  refine go ?_
  refine r_callO hof2 ?_
  refine go ?_
  refine r_callO hinv2 ?_
  refine go ?_
  refine c_up j (fun x => [(27, .val (.int .i64 (x : Nat)))]) (fun x => [(1096, some (.mat 23 22 lv lv 1 j (fun k y => [.val (.int .u32 ((fill2 F G i x k y : Nat) : Int))])))]) (fun x hx => ?_)
  refine go ?_
  refine c_if (fun h6 => ?_) (fun h6 => ?_)
  ·have hmul := r01Mul_den (fill2 F G i x i x) (lowB p lv q i) (modQ p lv i) (by omega) (by omega) (by rw [fill2_at]; exact hGq i x) hlw
   rw [show fill2 F G i x i x * lowB p lv q i % modQ p lv i = F i x by rw [fill2_at]; exact hF i x, e] at hmul
   refine go ?_
   refine r_callO hmul ?_
   refine go ?_
   refine ⟨h6, ?_⟩
   refine sub_mat 1096 (fun k y => [.val (.int .u32 ((fill2 F G i (x + 1) k y : Nat) : Int))]) (fun r y _ _ => fill2_set rfl r y) (fun _ _ => rfl) ?_
   exact sub
  ·obtain rfl : x = j := by omega
   refine go ?_
   refine ⟨h5', ?_⟩
   refine sub_mat 1096 (n := lv) (n2 := x) (g := fun k y => [.val (.int .u32 ((fill2 F G i x k y : Nat) : Int))]) (fun k y => [.val (.int .u32 ((fill2 F G (i + 1) 0 k y : Nat) : Int))]) (fun r y _ hy => by rw [fill2_row (r := r) hy]) (fun _ _ => rfl) ?_
   exact sub
 ·obtain rfl : i = lv := by omega
  refine go ?_
  refine fin_mat 1096 (n := i) (n2 := j) (g := fun k y => [.val (.int .u32 ((fill2 F G i 0 k y : Nat) : Int))]) (fun k y => [.val (.int .u32 ((F k y : Nat) : Int))]) (fun r y hr _ => by rw [fill2_all hr]) (fun _ _ => rfl) ?_
  refine fin_freezeM 1096 ?_
  refine fin ?_
  exact cv
open Go.RowKit
set_option maxRecDepth 20000
set_option maxHeartbeats 4000000
open Go.RowKit
theorem resI_small {a q : Nat} (h : a < q) : resI (a : Int) q = a := by
 unfold resI
 rw [Int.emod_eq_of_lt (by omega) (by omega)]
 exact Int.toNat_natCast a
theorem resI_mul {x t : Int} {q : Nat} (h : 0 < q) : resI x q * resI t q % q = resI (x * t) q := by
 have e : ((resI x q * resI t q % q : Nat) : Int) = ((resI (x * t) q : Nat) : Int) := by
  rw [Int.natCast_emod, Int.natCast_mul, resI_cast h, resI_cast h, resI_cast h, ← Int.mul_emod]
 exact Int.ofNat.inj e
theorem resI_neg1 {q : Nat} (h : 2 ≤ q) : resI (-1) q = q - 1 := by
 have h1 := resI_cast (x := -1) (show 0 < q by omega)
 have h2 : (-1 : Int) % (q : Int) = (q : Int) - 1 := by
  rw [← Int.add_emod_right, Int.emod_eq_of_lt (by omega) (by omega)]; omega
 omega
theorem sub_m1 {a b q : Nat} (hb : b < q) (h : 2 ≤ q) : (a + b * (q - 1)) % q = (a + q - b) % q := by
 have e : a + b * (q - 1) + q = a + q - b + b * q := by
  have h1 : b * (q - 1) + b = b * q := by
   have := Nat.mul_succ b (q - 1)
   rw [show (q - 1).succ = q by omega] at this
   omega
  omega
 have h2 : (a + b * (q - 1)) % q = (a + b * (q - 1) + q) % q := (Nat.add_mod_right _ _).symm
 rw [h2, e, Nat.add_mul_mod_self_right]
open Go.RowKit
set_option maxRecDepth 20000
set_option maxHeartbeats 4000000
theorem r14SameV_den (lv ex k n : Nat) (hlv : lv ≤ 1000) (hk : k ≤ 3) (hn : n ≤ 32) (A B : Nat → Nat → Nat → Nat) (h : ∀ i, i < k → ∀ r, r < lv → ∀ j, j < n → A i r j = B i r j) : Den Tryz.prog 19 [.agg (ciV true lv ex k n A), .agg (ciV true lv ex k n B)] (.val (.bool true)) := by
 have := r14Same_den (cgV lv ex k n A) (cgV lv ex k n B) (by show k ≤ _; omega) (by show k ≤ _; omega) (fun _ => by show lv ≤ _; omega) (fun _ => by show lv ≤ _; omega) (fun _ _ => by show n ≤ _; omega) (fun _ _ => by show n ≤ _; omega)
 rw [sameC_V h] at this
 exact this
open Go.RowKit
set_option maxRecDepth 20000
set_option maxHeartbeats 4000000
/-- A result said otherwise. -/
theorem DenH.res {P : Program} {f : FuncId} {ds : List D} {hs hs' rs : Hs} {r r' : D} (h : DenH P f ds hs r hs' rs) (hc : Cvt r r') : DenH P f ds hs r' hs' rs := fun Zc w i args hZ hi hH ha =>
 (h Zc w i args hZ hi hH ha).mono fun e w' ⟨v, i', Zn', p0, p1, p2, p3, p4, p5, pfl, p6, p7⟩ => ⟨v, i', Zn', p0, p1, p2, p3, p4, p5, pfl, p6, hc.cv (fun b hb => .inr hb) p7⟩
theorem zero_res {o : Bool} {n : Nat} {x : Int} {G : Nat → Nat → Nat → Nat} : Cvt (.tup [.agg zeroC, .val (.int .i64 x)]) (.tup [.agg (ciV o 0 0 0 n G), .val (.int .i64 x)]) :=
 Cvt.tup (.cons (Cvt.agg (.cons (.of_eq rfl) (.cons (.of_eq rfl) (.cons (Cvt.nil _ _ _) .nil)))) (.cons (.of_eq rfl) .nil))
open Go.RowKit
set_option maxRecDepth 20000
/-- An element whose rows are the same as far as they go. -/
theorem cvt_el {o : Bool} {lv : Nat} {sp : Bool} {M n : Nat} {A B : Nat → Nat → Nat} (h : ∀ r j, r < M → j < n → A r j = B r j) : Cvt (.agg (elL o lv sp M n A)) (.agg (elL o lv sp M n B)) :=
 Cvt.agg (.cons (.of_eq rfl) (.cons (.of_eq rfl) (.cons (Cvt.fz (.inl rfl) (fun r hr => ⟨rfl, fun c hc => by
  obtain rfl : c = 0 := by have : c < 1 := hc; omega
  exact Cvt.fz (.inl rfl) (fun j hj => ⟨rfl, fun c hc => by
   obtain rfl : c = 0 := by have : c < 1 := hc; omega
   exact .of_eq (by show D.val (.int .u32 ((A r j : Nat) : Int)) = D.val (.int .u32 ((B r j : Nat) : Int)); rw [h r j hr hj])⟩)⟩)) .nil)))
theorem prd_comm {p : PD} {n lv : Nat} (h : Lv p n lv) (A B : Nat → Nat → Nat) (r j : Nat) (hj : j < n) : prdV p lv n A B r j = prdV p lv n B A r j := mulR_comm _ _ (h.q0 r) hj
/-- The program's product, its factors changed. -/
theorem rgMulC_den (p : PD) (n lv : Nat) (sp : Bool) (h : Lv p n lv) (ga gb : Nat → Nat → Nat) (ha : Vg p lv ga) (hb : Vg p lv gb) : Den Tryz.prog 79 [.agg (parL true p), .agg (elL true lv sp (modN p lv sp) n ga), .agg (elL true lv sp (modN p lv sp) n gb)] (.tup [.agg (elL false lv sp (modN p lv sp) n (prdV p lv n gb ga)), .val (.int .i64 0)]) :=
 (rgMul_den p n lv sp h ga gb ha hb).res (Cvt.tup (.cons (cvt_el (fun r j _ hj => prd_comm h ga gb r j hj)) (.cons (.of_eq rfl) .nil)))
theorem resI_1 {q : Nat} (h : 2 ≤ q) : resI 1 q = 1 := by
 have := resI_small (show 1 < q by omega)
 simpa using this
theorem sumV_1 {p : PD} {n lv : Nat} (h : Lv p n lv) (A B : Nat → Nat → Nat) : sumV p lv 1 A B = addV p lv A B := by
 funext r j
 have hm := modQ_in h.vp h.sp h.l2 r
 unfold sumV addV
 rw [resI_1 (by omega), Nat.mul_one]
/-- The sum of the first products of two lists of elements. -/
def innV (p : PD) (lv n : Nat) (L K : Nat → Nat → Nat → Nat) : Nat → Nat → Nat → Nat
 | 0 => fun _ _ => 0
 | j + 1 => addV p lv (innV p lv n L K j) (prdV p lv n (L j) (K j))
theorem vg_inn {p : PD} {n lv : Nat} (h : Lv p n lv) (L K : Nat → Nat → Nat → Nat) : ∀ j, Vg p lv (innV p lv n L K j)
 | 0 => fun r _ => h.q0 r
 | _ + 1 => fun r _ => Nat.mod_lt _ (h.q0 r)
/-- Division by the special prime. -/
theorem divS_eq {p : PD} {n lv : Nat} (h : Lv p n lv) (b q t : Nat) (g : Nat → Nat → Nat) : div18 p lv b q t g = downV p lv b q t g := by
 have hm := modQ_in h.vp h.sp h.l2
 have e : mulIntV p lv (t : Int) (intV p lv (fun j => balI (g lv j * b % q) q)) = intV p lv (fun j => nearI b q t (g lv j)) := by
  funext k j
  unfold mulIntV intV nearI
  exact resI_mul (by have := hm k; omega)
 have e2 : pre18 p lv b q t g = subV p lv g (intV p lv (fun j => nearI b q t (g lv j))) := by
  unfold pre18
  rw [e]
  funext k j
  unfold sumV subV
  have hk := hm k
  rw [resI_neg1 (by omega)]
  exact sub_m1 (vg_int h _ k j) (by omega)
 unfold div18 downV
 rw [e2]
open Go.RowKit
set_option maxRecDepth 20000
theorem eOk_rowsG {p : PD} {e : EG} {n lv : Nat} {sp : Bool} (hn : p.n = (n : Int)) (hl : e.lv = (lv : Int)) (hs : e.sp = sp) (h : eOk p e = true) : e.m = modN p lv sp ∧ ∀ k, k < modN p lv sp → e.ln k = n ∧ ∀ j, j < n → e.g k j < modQ p lv k := by
 unfold eOk elOk at h
 rw [hl, hs, Int.toNat_natCast] at h
 rw [Bool.and_eq_true, Bool.and_eq_true, evry_iff, decide_eq_true_eq] at h
 obtain ⟨⟨_, h2⟩, h3⟩ := h
 refine ⟨h2, fun k hk => ?_⟩
 have h4 := h3 k (by omega)
 rw [rowOk_eq hn] at h4
 simp only [Bool.not_eq_true', Bool.or_eq_false_iff, decide_eq_false_iff_not, ne_eq, Decidable.not_not] at h4
 refine ⟨h4.1, fun j hj => ?_⟩
 by_cases q : e.g k j < modQ p lv k
 ·exact q
 ·have := hasI_spec (p := fun j => decide (modQ p lv k ≤ e.g k j)) (n := e.ln k) |>.2 ⟨j, by omega, decide_eq_true (by omega)⟩
  rw [h4.2] at this; cases this
/-- The residues of a valid element. -/
theorem el_vg {p : PD} {e : EG} {n lv : Nat} {sp : Bool} (hL : Lv p n lv) (he : EIn e) (hl : e.lv = (lv : Int)) (hs : e.sp = sp) (h : eOk p e = true) : Vg p lv e.g := fun r j => by
 obtain ⟨hm, hr⟩ := eOk_rowsG hL.n hl hs h
 have h0 := hL.q0 r
 by_cases q2 : r < modN p lv sp
 ·obtain ⟨h6, h7⟩ := hr r q2
  by_cases q3 : j < n
  ·exact h7 j q3
  ·rw [he.o3 r j (by omega)]; exact h0
 ·rw [he.o3 r j (by rw [he.o2 r (by omega)]; omega)]; exact h0
/-- Its fields, as the walks say them. -/
theorem el_cvl {p : PD} {e : EG} {n lv : Nat} {sp : Bool} (hn : p.n = (n : Int)) (hl : e.lv = (lv : Int)) (hs : e.sp = sp) (h : eOk p e = true) : CvtL (elD true e) (elL true lv sp (modN p lv sp) n e.g) := by
 obtain ⟨hm, hr⟩ := eOk_rowsG hn hl hs h
 refine .cons (.of_eq (by show D.val (.int .i64 e.lv) = _; rw [hl])) (.cons (.of_eq (by show D.val (.bool e.sp) = _; rw [hs])) (.cons ?_ .nil))
 show Cvt (.fz true e.m 1 _) (.fz true (modN p lv sp) 1 _)
 rw [hm]
 refine Cvt.fz (.inl rfl) (fun r hr' => ⟨rfl, fun j hj => ?_⟩)
 obtain rfl : j = 0 := by have : j < 1 := hj; omega
 show Cvt (.fz true (e.ln r) 1 _) (.fz true n 1 _)
 rw [(hr r hr').1]
 exact .of_eq rfl
/-- A list of valid elements at one level. -/
theorem list_cv {p : PD} {A : LG} {n lv m : Nat} {sp : Bool} (hn : p.n = (n : Int)) (hm : A.m = m) (hl : ∀ i, i < m → (A.E i).lv = (lv : Int)) (hs : ∀ i, i < m → (A.E i).sp = sp) (h : ∀ i, i < m → eOk p (A.E i) = true) : Cvt (lgD true A) (.fz true m 3 (fun i => elL true lv sp (modN p lv sp) n (A.E i).g)) := by
 subst hm
 refine Cvt.fz (.inl rfl) (fun i hi => ⟨rfl, fun c _ => ?_⟩)
 exact (el_cvl hn (hl i hi) (hs i hi) (h i hi)).at c
open Go.RowKit
instance fi47 : FI Tryz.prog 47 Tryz.f47 := ⟨Tryz.func47, Tryz.call47⟩
instance fi112 : FI Tryz.prog 112 Tryz.f112 := ⟨Tryz.func112, Tryz.call112⟩
set_option maxRecDepth 20000
set_option maxHeartbeats 4000000
theorem swdivide1_den (p : PD) (n i b t : Nat) (last : Nat → Nat) (hi : i < n) (hn : n ≤ 32) (h2 : 2 ≤ p.special) (hq : p.special ≤ 2147483647) (hl : ∀ j, last j < p.special) (hb : b < p.special) (ht : t ≤ 2147483647) :
  Den Tryz.prog 112 [.val (.int .i64 (i : Int)), .fptr true [u32sF true n last], .fptr true [.val (.int .u32 (b : Int))], .fptr true (parL true p), .fptr true [.val (.int .i64 (t : Int))]] (.val (.int .i64 (nearI b p.special t (last i)))) := by
 refine den_intro (fn := Tryz.f112) rfl rfl rfl rfl rfl ?_
 have hx := nearI_in (a := last i) (b := b) (show 0 < p.special by omega) hq ht
 unfold nearI at hx
 refine go ?_
 refine r_call (mMul_den (last i) b p.special h2 hq (hl i) hb) ?_
 refine go ?_
 refine r_call (mBalanced_den (last i * b % p.special) p.special h2 hq (Nat.mod_lt _ (by omega))) ?_
 refine go ?_
 refine fin ?_
 exact cv
theorem swdivide_den (p : PD) (n lv t : Nat) (hL : Lv p n lv) (ht : t ≤ 2147483647) (g : Nat → Nat → Nat) (hg : Vg p lv g) (b : Nat) (hb : b = invV (resI (t : Int) p.special) p.special) :
  Den Tryz.prog 47 [.agg (parL true p), .agg (elL true lv true (lv + 1) n g), .val (.int .i64 (t : Int))] (.agg (elL false lv false lv n (downV p lv b p.special t g))) := by
 refine den_intro (fn := Tryz.f47) rfl rfl rfl rfl rfl ?_
 have h32 := hL.n32
 have h4 := hL.n4
 have h1 := hL.l1
 have l2 := hL.l2
 have l24 := hL.vp.len2
 have hN : NatIs p.n n := hL.n
 have hm := modQ_in hL.vp hL.sp hL.l2
 have hq : p.special = modQ p lv lv := by unfold modQ; rw [if_neg (by omega)]
 have hq2 := hm lv
 rw [← hq] at hq2
 have hgl := hg lv
 rw [← hq] at hgl
 have hblt : b < p.special := by rw [hb]; exact invV_lt (by omega)
 have htl := resI_lt (x := (t : Int)) (show 0 < p.special by omega)
 have hinv := mInverse_den (resI (t : Int) p.special) p.special (by omega) hq2.2.1 htl
 rw [← hb] at hinv
 have hx : ∀ j, -9223372036854775808 ≤ nearI b p.special t (g lv j) ∧ nearI b p.special t (g lv j) ≤ 9223372036854775807 := fun j => by
  have := nearI_in (a := g lv j) (b := b) (show 0 < p.special by omega) hq2.2.1 ht
  omega
 have hnear : ∀ i, i < n → Den Tryz.prog 112 [.val (.int .i64 (i : Int)), .fptr true [u32sF true n (g lv)], .fptr true [.val (.int .u32 (b : Int))], .fptr true (parL true p), .fptr true [.val (.int .i64 (t : Int))]] (.val (.int .i64 (nearI b p.special t (g lv i)))) := fun i hi => swdivide1_den p n i b t (g lv) hi h32 (by omega) hq2.2.1 hgl hblt ht
 have hfi : Den Tryz.prog 75 [.agg (parL true p), .val (.int .i64 (lv : Int)), .val (.bool false), intsD true n (fun j => nearI b p.special t (g lv j))] (.tup [.agg (elL false lv false lv n (intV p lv (fun j => nearI b p.special t (g lv j)))), .val (.int .i64 0)]) := rgFromInts_den p n lv false hL (fun j => nearI b p.special t (g lv j)) hx
 have hsu : DenH Tryz.prog 80 [.agg (parL true p), .agg (elL true lv false lv n g), .agg (elL true lv false lv n (intV p lv (fun j => nearI b p.special t (g lv j))))] [] (.tup [.agg (elM lv false 1019 lv), .val (.int .i64 0)]) [] [(1019, u32M lv n (subV p lv g (intV p lv (fun j => nearI b p.special t (g lv j)))))] := rgSub_own p n lv false hL g (intV p lv (fun j => nearI b p.special t (g lv j))) hg (vg_int hL _)
 have hre : Den Tryz.prog 115 [.agg (parL true p), .agg (elL true lv true (lv + 1) n g), .val (.int .i64 (lv : Int)), .val (.bool false)] (.tup [.agg (elL false lv false lv n g), .val (.int .i64 0)]) := rgRestrictN_den p n lv hL g hg
 refine go ?_
 refine r_call (mOf_den (t : Int) p.special (by omega) hq2.2.1 (by omega)) ?_
 refine go ?_
 refine r_call hinv ?_
 refine go ?_
 refine c_arr (1000 + 51) (fun e => [.val (.int .i64 (fillZ (fun j => nearI b p.special t (g lv j)) 0 e))]) (fun e _ => by rw [show fillZ (fun j => nearI b p.special t (g lv j)) 0 e = 0 by simp [fillZ]]) (fun _ => rfl) ?_
 refine c_up n (fun j => [(54, .val (.int .i64 (j : Nat)))]) (fun j => [(1051, some (.arr 2 n 1 (fun e => [.val (.int .i64 (fillZ (fun j => nearI b p.special t (g lv j)) j e))])))]) (fun j hj => ?_)
 refine go ?_
 refine c_if (fun h3 => ?_) (fun h3 => ?_)
 ·refine go ?_
  refine r_call (hnear j h3) ?_
  refine go ?_
  refine ⟨h3, ?_⟩
  refine sub_arr 1051 _ (fun e _ => setE_fillZ rfl e) (fun _ => rfl) ?_
  exact sub
 obtain rfl : j = n := by omega
 refine c_arr 1051 (n := j) (f := fun e => [.val (.int .i64 (fillZ (fun x => nearI b p.special t (g lv x)) j e))]) (fun e => [.val (.int .i64 (nearI b p.special t (g lv e)))]) (fun e he => by rw [show fillZ (fun x => nearI b p.special t (g lv x)) j e = nearI b p.special t (g lv e) from if_pos he]) (fun _ => rfl) ?_
 refine go ?_
 refine r_eqS 68 (.sl 1051 1 j) rfl ?_
 refine r_call hfi ?_
 refine go ?_
 refine r_call hre ?_
 refine go ?_
 refine r_callN hsu (r' := .tup [.agg (elM lv false 1084 lv), .val (.int .i64 0)]) rfl ?_
 refine go ?_
 have hGq : ∀ i x, subV p lv g (intV p lv (fun j => nearI b p.special t (g lv j))) i x < modQ p lv i := vg_sub hL _ _
 have hF : ∀ i x, subV p lv g (intV p lv (fun j => nearI b p.special t (g lv j))) i x * lowB p lv p.special i % modQ p lv i = downV p lv b p.special t g i x := fun i x => rfl
 clear hfi hre hsu hinv hx hnear hgl hg
 obtain ⟨G, hG⟩ : ∃ G, subV p lv g (intV p lv (fun j => nearI b p.special t (g lv j))) = G := ⟨_, rfl⟩
 obtain ⟨F, hFF⟩ : ∃ F, downV p lv b p.special t g = F := ⟨_, rfl⟩
 rw [hG] at hGq hF
 rw [hFF] at hF ⊢
 refine c_mat 1084 (fun k j => [.val (.int .u32 ((fill2 F G 0 0 k j : Nat) : Int))]) (fun e x he hx => by rw [fill2_0, ← hG]) (fun _ _ => rfl) ?_
 refine c_up lv (fun i => [(90, .val (.int .i64 (i : Nat)))]) (fun i => [(1084, some (.mat 23 22 lv lv 1 j (fun k x => [.val (.int .u32 ((fill2 F G i 0 k x : Nat) : Int))])))]) (fun i hi => ?_)
 refine go ?_
 have hqi := hm i
 refine c_if (fun h5 => ?_) (fun h5 => ?_)
 ·have h5' : i < lv := by omega
  have e : modQ p lv i = p.chain.getD i 0 := by unfold modQ; rw [if_pos h5']
  have hof2 := mOf_den (p.special : Int) (modQ p lv i) (by omega) (by omega) (by omega)
  have hinv2 := mInverse_den (resI (p.special : Int) (modQ p lv i)) (modQ p lv i) (by omega) (by omega) (resI_lt (by omega))
  have hlw : lowB p lv p.special i < modQ p lv i := invV_lt (by omega)
  have hlb : invV (resI (p.special : Int) (modQ p lv i)) (modQ p lv i) = lowB p lv p.special i := rfl
  rw [hlb] at hinv2
  rw [e] at hof2 hinv2
  refine go ?_
  refine r_callO hof2 ?_
  refine go ?_
  refine r_callO hinv2 ?_
  refine go ?_
  refine c_up j (fun x => [(116, .val (.int .i64 (x : Nat)))]) (fun x => [(1084, some (.mat 23 22 lv lv 1 j (fun k y => [.val (.int .u32 ((fill2 F G i x k y : Nat) : Int))])))]) (fun x hx => ?_)
  refine go ?_
  refine c_if (fun h6 => ?_) (fun h6 => ?_)
  ·have hmul := mMul_den (fill2 F G i x i x) (lowB p lv p.special i) (modQ p lv i) (by omega) (by omega) (by rw [fill2_at]; exact hGq i x) hlw
   rw [show fill2 F G i x i x * lowB p lv p.special i % modQ p lv i = F i x by rw [fill2_at]; exact hF i x, e] at hmul
   refine go ?_
   refine r_callO hmul ?_
   refine go ?_
   refine ⟨h6, ?_⟩
   refine sub_mat 1084 (fun k y => [.val (.int .u32 ((fill2 F G i (x + 1) k y : Nat) : Int))]) (fun r y _ _ => fill2_set rfl r y) (fun _ _ => rfl) ?_
   exact sub
  ·obtain rfl : x = j := by omega
   refine go ?_
   refine ⟨h5', ?_⟩
   refine sub_mat 1084 (n := lv) (n2 := x) (g := fun k y => [.val (.int .u32 ((fill2 F G i x k y : Nat) : Int))]) (fun k y => [.val (.int .u32 ((fill2 F G (i + 1) 0 k y : Nat) : Int))]) (fun r y _ hy => by rw [fill2_row (r := r) hy]) (fun _ _ => rfl) ?_
   exact sub
 ·obtain rfl : i = lv := by omega
  refine go ?_
  refine fin_mat 1084 (n := i) (n2 := j) (g := fun k y => [.val (.int .u32 ((fill2 F G i 0 k y : Nat) : Int))]) (fun k y => [.val (.int .u32 ((F k y : Nat) : Int))]) (fun r y hr _ => by rw [fill2_all hr]) (fun _ _ => rfl) ?_
  refine fin_freezeM 1084 ?_
  refine fin ?_
  exact cv
open Go.RowKit
open Go.RowKit
instance fi48 : FI Tryz.prog 48 Tryz.f48 := ⟨Tryz.func48, Tryz.call48⟩
set_option maxRecDepth 20000
set_option maxHeartbeats 4000000
theorem swinner_den (p : PD) (n lv L0 mk : Nat) (hL : Lv p n lv) (hL0 : Lv p n L0) (hle : lv ≤ L0) (hmk : lv ≤ mk) (hmk2 : mk ≤ 1000000) (K L : Nat → Nat → Nat → Nat) (hK : ∀ j, Vg p L0 (K j)) (hLg : ∀ j, Vg p lv (L j)) :
  Den Tryz.prog 48 [.agg (parL true p), .fz true mk 3 (fun i => elL true L0 true (L0 + 1) n (K i)), .fz true lv 3 (fun i => elL true lv true (lv + 1) n (L i))] (.agg (elL false lv true (lv + 1) n (innV p lv n L (fun j => resV L0 lv (K j)) lv))) := by
 refine den_intro (fn := Tryz.f48) rfl rfl rfl rfl rfl ?_
 have h32 := hL.n32
 have h4 := hL.n4
 have h1 := hL.l1
 have l2 := hL.l2
 have l24 := hL.vp.len2
 have hN : NatIs p.n n := hL.n
 have hfi : Den Tryz.prog 75 [.agg (parL true p), .val (.int .i64 (lv : Int)), .val (.bool true), zerosD n] (.tup [.agg (elL false lv true (lv + 1) n (fun _ _ => 0)), .val (.int .i64 0)]) := rgZero_den p n lv true hL
 have hV : ∀ j, Vg p lv (resV L0 lv (K j)) := fun j => vg_res hle (hK j)
 have hre : ∀ j, Den Tryz.prog 115 [.agg (parL true p), .agg (elL true L0 true (L0 + 1) n (K j)), .val (.int .i64 (lv : Int)), .val (.bool true)] (.tup [.agg (elL false lv true (lv + 1) n (resV L0 lv (K j))), .val (.int .i64 0)]) := fun j => rgRestrictS_den p n L0 lv hL0 h1 hle (K j) (hK j)
 have hmu : ∀ j, Den Tryz.prog 79 [.agg (parL true p), .agg (elL true lv true (lv + 1) n (resV L0 lv (K j))), .agg (elL true lv true (lv + 1) n (L j))] (.tup [.agg (elL false lv true (lv + 1) n (prdV p lv n (L j) (resV L0 lv (K j)))), .val (.int .i64 0)]) := fun j => rgMulC_den p n lv true hL _ _ (hV j) (hLg j)
 have had : ∀ j, Den Tryz.prog 60 [.agg (parL true p), .agg (elL true lv true (lv + 1) n (innV p lv n L (fun j => resV L0 lv (K j)) j)), .agg (elL true lv true (lv + 1) n (prdV p lv n (L j) (resV L0 lv (K j))))] (.tup [.agg (elL false lv true (lv + 1) n (innV p lv n L (fun j => resV L0 lv (K j)) (j + 1))), .val (.int .i64 0)]) := fun j => rgAdd_den p n lv true hL _ _ (vg_inn hL _ _ j) (vg_prd hL _ _)
 have h0 : (fun _ _ => 0) = innV p lv n L (fun j => resV L0 lv (K j)) 0 := rfl
 rw [h0] at hfi
 clear hV h0
 have hR : ∀ j, resV L0 lv (K j) = (fun j => resV L0 lv (K j)) j := fun _ => rfl
 have hre : ∀ j, Den Tryz.prog 115 [.agg (parL true p), .agg (elL true L0 true (L0 + 1) n (K j)), .val (.int .i64 (lv : Int)), .val (.bool true)] (.tup [.agg (elL false lv true (lv + 1) n ((fun j => resV L0 lv (K j)) j)), .val (.int .i64 0)]) := hre
 have hmu : ∀ j, Den Tryz.prog 79 [.agg (parL true p), .agg (elL true lv true (lv + 1) n ((fun j => resV L0 lv (K j)) j)), .agg (elL true lv true (lv + 1) n (L j))] (.tup [.agg (elL false lv true (lv + 1) n (prdV p lv n (L j) ((fun j => resV L0 lv (K j)) j))), .val (.int .i64 0)]) := hmu
 have had : ∀ j, Den Tryz.prog 60 [.agg (parL true p), .agg (elL true lv true (lv + 1) n (innV p lv n L (fun j => resV L0 lv (K j)) j)), .agg (elL true lv true (lv + 1) n (prdV p lv n (L j) ((fun j => resV L0 lv (K j)) j)))] (.tup [.agg (elL false lv true (lv + 1) n (innV p lv n L (fun j => resV L0 lv (K j)) (j + 1))), .val (.int .i64 0)]) := had
 generalize hRR : (fun j => resV L0 lv (K j)) = R at *
 clear hRR hR
 generalize hII : innV p lv n L R = I at *
 clear hII
 generalize hPP : prdV p lv n = Q at *
 clear hPP
 refine go ?_
 refine r_call hfi ?_
 refine go ?_
 refine c_up lv (fun j => [(27, .val (.int .i64 (j : Nat)))]) (fun j => [(1007, some (.lit 35 (elL false lv true (lv + 1) n (I j))))]) (fun j hj => ?_)
 refine go ?_
 refine c_if (fun h3 => ?_) (fun h3 => ?_)
 ·refine go ?_
  refine r_call (hre j) ?_
  refine go ?_
  refine r_call (hmu j) ?_
  refine go ?_
  refine r_call (had j) ?_
  refine go ?_
  refine ⟨h3, ?_⟩
  exact sub
 ·obtain rfl : j = lv := by omega
  refine go ?_
  refine fin ?_
  exact cv
open Go.RowKit
instance ti30 : TI Tryz.prog 30 Tryz.t30 Tryz.t29.desc := ⟨by kernel_rfl, by kernel_rfl⟩
instance ti90 : TI Tryz.prog 90 Tryz.t90 (.array 2 35) := ⟨by kernel_rfl, by kernel_rfl⟩
instance sz30 : SZ Tryz.prog 30 2 := SZ.of ti30 rfl
instance zr30 : ZR Tryz.prog 30 [.slice none 0 0, .int .i64 0] := ZR.of ti30 rfl rfl rfl
instance bt30 : BT Tryz.prog 30 [(0, 1), (1, 1)] [.slice none 0 0, .int .i64 0] := BT.of (ns := [1, 1]) ti30 rfl zr30.zr ⟨sz26.sz, ⟨sz3.sz, trivial⟩⟩ (by intro j; repeat (first | rfl | cases j with | zero => rfl | succ j => ?_))
instance ft30_0 : FT Tryz.prog 30 0 0 := FT.of ti30 rfl ti26 rfl rfl
instance fv30_0 : FV Tryz.prog 30 0 0 1 false := FV.one ti30 rfl ti26 rfl rfl
instance ft30_1 : FT Tryz.prog 30 1 1 := FT.of ti30 rfl ti3 rfl rfl
instance fv30_1 : FV Tryz.prog 30 1 1 1 false := FV.one ti30 rfl ti3 rfl rfl
instance sz90 : SZ Tryz.prog 90 6 := SZ.of ti90 rfl
instance zr90 : ZR Tryz.prog 90 [.int .i64 0, .bool false, .slice none 0 0, .int .i64 0, .bool false, .slice none 0 0] := ZR.of ti90 rfl rfl rfl
instance ar90 : AR Tryz.prog 90 2 3 := AR.of ti90 ti35 rfl
instance fi11 : FI Tryz.prog 11 Tryz.f11 := ⟨Tryz.func11, Tryz.call11⟩
instance fi43 : FI Tryz.prog 43 Tryz.f43 := ⟨Tryz.func43, Tryz.call43⟩
instance fi14 : FI Tryz.prog 14 Tryz.f14 := ⟨Tryz.func14, Tryz.call14⟩
set_option maxRecDepth 20000
set_option maxHeartbeats 4000000
/-- An element of a list of digits. -/
def fitL (p : PD) (m : Nat) (e : EG) : Bool := e.sp && decide (e.lv = (m : Int)) && eOk p e
theorem swApplyDigits1_den (p : PD) (hvp : VP p) (e : EG) (hln : ∀ k, e.ln k ≤ 1000000) (hm : e.m ≤ 1000000) (A : LG) (hA : A.m ≤ 1000000) : Den Tryz.prog 43 [.agg (elD true e), .fptr true [lgD true A], .fptr true (parL true p)] (.val (.bool (fitL p A.m e))) := by
 refine den_intro (fn := Tryz.f43) rfl rfl rfl rfl rfl ?_
 refine go ?_
 refine g_callM (hl := fun hb => r_call (rgCheck_den p hvp e.lv e.sp e.m e.ln e.g hln hm) (run_fin rfl)) (h := ?_)
 refine go ?_
 unfold fitL
 rw [show eOk p e = decide (errI (elOk p e.lv e.sp e.m e.ln e.g) = 0) from (errI_0 _).symm]
 refine fin ?_
 exact cv
theorem swall2_den (A : LG) (T : EG → Bool) {fl : FuncId} {fn : Func} [FI Tryz.prog fl fn] (l1 l2 : List D) [OldDL l1] [OldDL l2] (hA : A.m ≤ 1000000) (hT : ∀ i, i < A.m → Den Tryz.prog fl [.agg (elD true (A.E i)), .fptr true l1, .fptr true l2] (.val (.bool (T (A.E i))))) : Den Tryz.prog 45 [lgD true A, .clo fl [.fptr true l1, .fptr true l2]] (.val (.bool (evry (fun i => T (A.E i)) A.m))) := by
 refine den_intro (fn := Tryz.f45) rfl rfl rfl rfl rfl ?_
 refine go ?_
 refine c_down (fun j => A.m - j) (fun j => j ≤ A.m ∧ ∀ k, k < j → T (A.E k) = true) (fun j : Nat => [(9, .val (.int .i64 (j : Int)))]) (fun _ => []) 0 (fun j ⟨hj, hp⟩ => ?_) ⟨by omega, fun e he => by omega⟩
 refine go ?_
 refine c_if (fun h3 => ?_) (fun h3 => ?_)
 ·refine go ?_
  refine r_callO (hT j h3) ?_
  refine go ?_
  refine c_ifB (fun h4 => ?_) (fun h4 => ?_)
  ·refine go ?_
   refine fin ?_
   rw [evry_no (f := fun i => T (A.E i)) h3 (by simpa using h4)]
   exact cv
  ·refine go ?_
   refine ⟨j + 1, ⟨by omega, fun i hi => ?_⟩, by omega, ?_⟩
   ·by_cases q : i < j
    ·exact hp i q
    ·obtain rfl : i = j := by omega
     simpa using h4
   ·exact sub
 ·refine go ?_
  refine fin ?_
  rw [evry_iff.2 (fun k hk => hp k (by omega))]
  exact cv
theorem keyB_good {p : PD} {f : Int} {A B : LG} (h : keyB p f A B = true) : Good p.par := by
 unfold keyB at h
 simp only [Bool.and_eq_true] at h
 exact goodB_iff.1 h.1.1.1.1.1
/-- Lists of elements of one shape. -/
abbrev lgV (m lv : Nat) (sp : Bool) (M n : Nat) (K : Nat → Nat → Nat → Nat) : LG := ⟨m, fun i => ⟨lv, sp, M, fun _ => n, K i⟩⟩
abbrev keyV (o : Bool) (f : Int) (L0 n : Nat) (A B : Nat → Nat → Nat → Nat) : List D := [.val (.int .i64 f), .fz o L0 3 (fun i => elL o L0 true (L0 + 1) n (A i)), .fz o L0 3 (fun i => elL o L0 true (L0 + 1) n (B i))]
theorem eOk_V {p : PD} {n lv : Nat} (h : Lv p n lv) {g : Nat → Nat → Nat} (hg : Vg p lv g) : eOk p ⟨lv, true, lv + 1, fun _ => n, g⟩ = true := elOk_valid (sp := true) h hg
/-- A key that is valid. -/
structure Kv (p : PD) (n L0 : Nat) (f : Int) (A B : Nat → Nat → Nat → Nat) : Prop where
 fit : PFit p
 good : Good p.par
 lv : Lv p n L0
 top : L0 = p.chain.length
 from_ : fromB p f = true
 a : ∀ i, Vg p L0 (A i)
 b : ∀ i, Vg p L0 (B i)
theorem Kv.key {p : PD} {n L0 : Nat} {f : Int} {A B : Nat → Nat → Nat → Nat} (h : Kv p n L0 f A B) : keyB p f (lgV L0 L0 true (L0 + 1) n A) (lgV L0 L0 true (L0 + 1) n B) = true := by
 have e : ∀ (G : Nat → Nat → Nat → Nat), (∀ i, Vg p L0 (G i)) → evry (fun i => fitE p ((lgV L0 L0 true (L0 + 1) n G).E i)) L0 = true := fun G hG => evry_iff.2 (fun i _ => by
  show (true && decide ((L0 : Int) = (p.chain.length : Int)) && eOk p ⟨L0, true, L0 + 1, fun _ => n, G i⟩) = true
  rw [eOk_V h.lv (hG i), decide_eq_true (by rw [h.top])]; rfl)
 unfold keyB
 rw [goodB_iff.2 h.good, h.from_]
 show (true && true && decide (L0 = p.chain.length) && decide (L0 = p.chain.length) && evry (fun i => fitE p ((lgV L0 L0 true (L0 + 1) n A).E i)) L0 && evry (fun i => fitE p ((lgV L0 L0 true (L0 + 1) n B).E i)) L0) = true
 rw [e A h.a, e B h.b, decide_eq_true h.top]; rfl
theorem Kv.fitA {p : PD} {n L0 : Nat} {f : Int} {A B : Nat → Nat → Nat → Nat} (h : Kv p n L0 f A B) (G : Nat → Nat → Nat → Nat) : LFit (lgV L0 L0 true (L0 + 1) n G) := by
 have := h.lv.l2
 have := h.lv.vp.len2
 have := h.lv.n32
 exact ⟨by show L0 ≤ _; omega, fun _ => by show L0 + 1 ≤ _; omega, fun _ _ => by show n ≤ _; omega⟩
theorem Kv.check {p : PD} {n L0 : Nat} {f : Int} {A B : Nat → Nat → Nat → Nat} (h : Kv p n L0 f A B) : Den Tryz.prog 34 [.agg (parL true p), .agg (keyV true f L0 n A B)] (.val (.int .i64 0)) := by
 have := swCheckKey_den p h.fit f (lgV L0 L0 true (L0 + 1) n A) (lgV L0 L0 true (L0 + 1) n B) (h.fitA A) (h.fitA B)
 rw [h.key] at this
 exact this
theorem swApplyDigits_ok (p : PD) (n L0 : Nat) (f : Int) (A B : Nat → Nat → Nat → Nat) (h : Kv p n L0 f A B) (lv ex : Nat) (hC : Cv p n lv ex) (L : Nat → Nat → Nat → Nat) (hLg : ∀ j, Vg p lv (L j)) (b : Nat) (hb : b = invV (resI ((p.prime ^ ex : Nat) : Int) p.special) p.special) :
  Den Tryz.prog 11 [.agg (parL true p), .agg (keyV true f L0 n A B), .fz true lv 3 (fun i => elL true lv true (lv + 1) n (L i)), .val (.int .i64 (ex : Int))]
   (.tup [.agg (elL false lv false lv n (downV p lv b p.special (p.prime ^ ex) (innV p lv n L (fun j => resV L0 lv (A j)) lv))), .agg (elL false lv false lv n (downV p lv b p.special (p.prime ^ ex) (innV p lv n L (fun j => resV L0 lv (B j)) lv))), .val (.int .i64 0)]) := by
 refine den_intro (fn := Tryz.f11) rfl rfl rfl rfl rfl ?_
 have hL := hC.lv
 have h32 := hL.n32
 have h1 := hL.l1
 have l2 := hL.l2
 have l24 := hL.vp.len2
 have e1 := hC.st.e1
 have e2 := hC.st.e2
 have ht := h.top
 have hall : evry (fun i => fitL p lv ((lgV lv lv true (lv + 1) n L).E i)) lv = true := evry_iff.2 (fun i _ => by
  show (true && decide ((lv : Int) = (lv : Int)) && eOk p ⟨lv, true, lv + 1, fun _ => n, L i⟩) = true
  rw [eOk_V hL (hLg i), decide_eq_true rfl]; rfl)
 have hsa : Den Tryz.prog 45 [.fz true lv 3 (fun i => elL true lv true (lv + 1) n (L i)), .clo 43 [.fptr true [.fz true lv 3 (fun i => elL true lv true (lv + 1) n (L i))], .fptr true (parL true p)]] (.val (.bool true)) := by
  have := swall2_den (lgV lv lv true (lv + 1) n L) (fitL p lv) [lgD true (lgV lv lv true (lv + 1) n L)] (parL true p) (by show lv ≤ _; omega) (fun i hi => swApplyDigits1_den p hL.vp _ (fun _ => by show n ≤ _; omega) (by show lv + 1 ≤ _; omega) (lgV lv lv true (lv + 1) n L) (by show lv ≤ _; omega))
  rw [hall] at this
  exact this
 have hIA := swinner_den p n lv L0 L0 hL h.lv (by omega) (by omega) (by omega) A L h.a hLg
 have hIB := swinner_den p n lv L0 L0 hL h.lv (by omega) (by omega) (by omega) B L h.b hLg
 obtain ⟨b1, b2, b3⟩ := good_pow hC.st.good hC.st.e2
 have hT := b1 ex (Nat.le_refl _)
 have hDA := swdivide_den p n lv (p.prime ^ ex) hL hT (innV p lv n L (fun j => resV L0 lv (A j)) lv) (vg_inn hL _ _ _) b hb
 have hDB := swdivide_den p n lv (p.prime ^ ex) hL hT (innV p lv n L (fun j => resV L0 lv (B j)) lv) (vg_inn hL _ _ _) b hb
 generalize innV p lv n L (fun j => resV L0 lv (A j)) lv = X at *
 generalize innV p lv n L (fun j => resV L0 lv (B j)) lv = Y at *
 generalize downV p lv b p.special (p.prime ^ ex) X = X' at *
 generalize downV p lv b p.special (p.prime ^ ex) Y = Y' at *
 have hpm := pModulus_den p h.fit lv ex hC.st
 refine go ?_
 refine r_call h.check ?_
 refine go ?_
 refine g_callM (hl := fun hb => r_call hsa (run_fin rfl)) (h := ?_)
 refine go ?_
 refine c_ifB (fun h2 => ?_) (fun h2 => ?_)
 ·exfalso
  simp at h2
  omega
 clear h2
 refine go ?_
 refine r_call hpm ?_
 refine go ?_
 refine r_call hIA ?_
 refine go ?_
 refine r_call hDA ?_
 refine go ?_
 refine r_call hIB ?_
 refine go ?_
 refine r_call hDB ?_
 refine go ?_
 refine fin ?_
 exact cv
end Go.Proofs.YtmjildbdkecolaaGreat
