/-
  'FnExactStockAfter': for all arguments the program's StockAfter returns what the reference's returns, leaves its arguments as they are and returns memory of its own. Conditions: none.
-/
import Derived.Test.YtciekhcdkfhcoaaMkK
import Derived.Test.YtciekhcdkfhcoaaMkD
set_option linter.unusedSimpArgs false
set_option linter.unusedVariables false
set_option linter.unusedSectionVars false
namespace Go.Proofs.Ytciekhcdkfhcoaa
open Go.Abs Go.RowKit

set_option maxHeartbeats 1600000 in
theorem lawStockAfter_c (n : Int) (xs : List Mk) (a : Option Addr) (ys : List Int) (b : Option Addr) (ws : List Int) (d : Option Addr) (m : Mem) (hr : RdM m a xs) (hm : xs.length ≤ maxLen) (ht : ∀ x ∈ xs, x.2.2.1.length ≤ maxLen ∧ x.2.2.2.length ≤ maxLen) (hs0 : RdI m b ys) (hms0 : ys.length ≤ maxLen) (hs1 : RdI m d ws) (hms1 : ws.length ≤ maxLen) : ACalls Try.prog 9 [.int .i64 n, .slice a xs.length xs.length, .slice b ys.length ys.length, .slice d ws.length ws.length] m (.bool true) m := by
  refine acalls_of_vc Try.func9 rfl Try.fol (by kernel_rfl) ?_
  simp only [Try.f9]
  simp -dsimp -implicitDefEqProofs
  refine ⟨fun _ => GC.refl _ _ _, fun hbs0 => ?_⟩
  have hn0 : ys.length ≤ 1048576 := by simp at hbs0; omega
  refine ⟨fun _ => GC.refl _ _ _, fun hbs1 => ?_⟩
  have hn1 : ws.length ≤ 1048576 := by simp at hbs1; omega
  refine callsTo Try.cal13 (szMarketS_c xs a _ _ hr hm ht (by decide)) ?_
  simp -dsimp -implicitDefEqProofs
  refine ⟨fun _ => GC.refl _ _ _, fun hb => ?_⟩
  obtain ⟨hb1, he⟩ := leftI_ok hb
  rw [he]
  have hn : xs.length ≤ 1048576 := by omega
  have hl : xs.length + sumMk xs ≤ 1048576 := by omega
  have hu : ∀ x ∈ xs, x.2.2.1.length ≤ 1048576 ∧ x.2.2.2.length ≤ 1048576 := fun x hx => by have := sumMk_mem hx; omega
  have hk : ¬ ((1 : Int) + 2 * (xs.length : Int) + (sumMk xs : Int) + (ys.length : Int) + (ws.length : Int) < 0) := by omega
  cases hO : stockO n xs ys ws with
  | none =>
    obtain ⟨_, u0, cu0, rfl, pu0, ou⟩ := toMarketS_c xs a m (hr) hn hu
    refine callsTo Try.cal15 cu0 ?_
    simp -dsimp -implicitDefEqProofs [hk]
    have qu0 : m <+: u0 := pu0
    obtain ⟨_, u1, cu1, rfl, pu1, zu0⟩ := toInt64S_e ys b u0 (hs0.pre' qu0) hn0
    refine callsTo Try.cal21 cu1 ?_
    simp -dsimp -implicitDefEqProofs [hk]
    have qu1 : m <+: u1 := qu0.trans pu1
    obtain ⟨_, u2, cu2, rfl, pu2, zu1⟩ := toInt64S_e ws d u1 (hs1.pre' qu1) hn1
    refine callsTo Try.cal21 cu2 ?_
    simp -dsimp -implicitDefEqProofs [hk]
    have qu2 : m <+: u2 := qu1.trans pu2
    have eu2 : u2 <+: u2 := pre_refl _
    have eu1 : u1 <+: u2 := pu2.trans eu2
    have eu0 : u0 <+: u2 := pu1.trans eu1
    have hA := specStock_c n xs ys ws _ _ _ u2 (ou.rd.pre eu0) (RdI.of_get (xs := ys) (prefix_get eu1 zu0) (by simp) rfl rfl) (RdI.of_get (xs := ws) (prefix_get eu2 zu1) (by simp) rfl rfl) hn hu hn0 hn1
    rw [hO] at hA
    simp only [optV, optM, List.append_nil] at hA
    refine callsTo Try.cal37 hA ?_
    simp -dsimp -implicitDefEqProofs [hk]
    obtain ⟨A, eA⟩ : ∃ A, A = u2 := ⟨_, rfl⟩
    have pA : u2 <+: A := by rw [eA]; exact pre_refl _
    rw [← eA]
    have qA : m <+: A := qu2.trans pA
    obtain ⟨_, v0, cv0, rfl, pv0, ov⟩ := toMarketS_c xs a A (hr.pre qA) hn hu
    refine callsTo Try.cal15 cv0 ?_
    simp -dsimp -implicitDefEqProofs [hk]
    have qv0 : m <+: v0 := (qA.trans pv0)
    obtain ⟨_, v1, cv1, rfl, pv1, zv0⟩ := toInt64S_e ys b v0 (hs0.pre' qv0) hn0
    refine callsTo Try.cal21 cv1 ?_
    simp -dsimp -implicitDefEqProofs [hk]
    have qv1 : m <+: v1 := qv0.trans pv1
    obtain ⟨_, v2, cv2, rfl, pv2, zv1⟩ := toInt64S_e ws d v1 (hs1.pre' qv1) hn1
    refine callsTo Try.cal21 cv2 ?_
    simp -dsimp -implicitDefEqProofs [hk]
    have qv2 : m <+: v2 := qv1.trans pv2
    have ev2 : v2 <+: v2 := pre_refl _
    have ev1 : v1 <+: v2 := pv2.trans ev2
    have ev0 : v0 <+: v2 := pv1.trans ev1
    have fA : A <+: v2 := pv0.trans ev0
    have hB := implStock_c n xs ys ws _ _ _ v2 (ov.rd.pre ev0) (RdI.of_get (xs := ys) (prefix_get ev1 zv0) (by simp) rfl rfl) (RdI.of_get (xs := ws) (prefix_get ev2 zv1) (by simp) rfl rfl) hn hu hn0 hn1
    rw [hO] at hB
    simp only [optV, optM, List.append_nil] at hB
    refine callsTo Try.cal38 hB ?_
    simp -dsimp -implicitDefEqProofs [hk]
    obtain ⟨B, eB⟩ : ∃ B, B = v2 := ⟨_, rfl⟩
    have pB : v2 <+: B := by rw [eB]; exact pre_refl _
    rw [← eB]
    have qB : m <+: B := qv2.trans pB
    refine callsTo Try.cal24 (eqInt64S_c [] [] _ _ _ (RdI.nil _ _) (RdI.nil _ _) (by simp)) ?_
    simp -dsimp -implicitDefEqProofs [hk]
    obtain ⟨_, w0, cw0, rfl, pw0, ow⟩ := toMarketS_c xs a B (hr.pre qB) hn hu
    refine callsTo Try.cal15 cw0 ?_
    simp -dsimp -implicitDefEqProofs [hk]
    have qw0 : m <+: w0 := qB.trans pw0
    have fw0 : v2 <+: w0 := pB.trans pw0
    refine callsTo Try.cal17 (eqMarketS_c xs xs _ _ _ (ov.rd.pre (ev0.trans fw0)) ow.rd hn hu) ?_
    simp -dsimp -implicitDefEqProofs [hk]
    obtain ⟨_, w1, cw1, rfl, pw1, zw0⟩ := toInt64S_e ys b w0 (hs0.pre' qw0) hn0
    refine callsTo Try.cal21 cw1 ?_
    simp -dsimp -implicitDefEqProofs [hk]
    have qw1 : m <+: w1 := qw0.trans pw1
    have fw1 : v2 <+: w1 := fw0.trans pw1
    refine callsTo Try.cal24 (eqInt64S_c ys ys _ _ _ (RdI.of_get (xs := ys) (prefix_get (ev1.trans fw1) zv0) (by simp) rfl rfl) (RdI.of_get (xs := ys) zw0 (by simp) rfl rfl) hn0) ?_
    simp -dsimp -implicitDefEqProofs [hk]
    obtain ⟨_, w2, cw2, rfl, pw2, zw1⟩ := toInt64S_e ws d w1 (hs1.pre' qw1) hn1
    refine callsTo Try.cal21 cw2 ?_
    simp -dsimp -implicitDefEqProofs [hk]
    have qw2 : m <+: w2 := qw1.trans pw2
    have fw2 : v2 <+: w2 := fw1.trans pw2
    refine callsTo Try.cal24 (eqInt64S_c ws ws _ _ _ (RdI.of_get (xs := ws) (prefix_get (ev2.trans fw2) zv1) (by simp) rfl rfl) (RdI.of_get (xs := ws) zw1 (by simp) rfl rfl) hn1) ?_
    simp -dsimp -implicitDefEqProofs [hk]
    have gB : B <+: w2 := pw0.trans (pw1.trans (pw2))
    obtain ⟨_, k0, ck0, rfl, fk⟩ := markMarketS_c xs v0 w2 _ _ 1 ov (ev0.trans fw2) hl (by decide)
    refine callsTo Try.cal32 ck0 ?_
    simp -dsimp -implicitDefEqProofs [hk]
    have lA := qA.length_le
    have lA2 : A.length < v0.length := by obtain ⟨o, h1, _⟩ := ov; exact lt_of_get h1
    have lv0 := lt_of_get zv0
    have lv1 := lt_of_get zv1
    have y00 : k0[v0.length]? = some ⟨ys.map (Value.int .i64), 2, 1, 1⟩ := (fk.2 _ (.inr (by omega))).trans (prefix_get (ev1.trans fw2) zv0)
    have y01 : k0[v1.length]? = some ⟨ws.map (Value.int .i64), 2, 1, 1⟩ := (fk.2 _ (.inr (by omega))).trans (prefix_get (ev2.trans fw2) zv1)
    have qk0 : m <+: k0 := fk.pre qw2 lA
    obtain ⟨k1, ek1⟩ : ∃ k1, k1 = k0.set v0.length ⟨mkCells 1 ((1 : Int) + 2 * (xs.length : Int) + (sumMk xs : Int)) ys.length, 2, 1, 1⟩ := ⟨_, rfl⟩
    have ck1 := markInt64S_c ys ((1 : Int) + 2 * (xs.length : Int) + (sumMk xs : Int)) _ _ _ y00 rfl rfl (by simp) hn0 (by omega)
    simp only at ck1
    rw [← ek1] at ck1
    have qk1 : m <+: k1 := by rw [ek1]; exact pre_set qk0 (by have := qv0.length_le; omega) _
    refine callsTo Try.cal28 ck1 ?_
    simp -dsimp -implicitDefEqProofs [hk]
    have y11 : k1[v1.length]? = some ⟨ws.map (Value.int .i64), 2, 1, 1⟩ := by rw [ek1, List.getElem?_set_ne (by omega)]; exact y01
    obtain ⟨k2, ek2⟩ : ∃ k2, k2 = k1.set v1.length ⟨mkCells 1 ((1 : Int) + 2 * (xs.length : Int) + (sumMk xs : Int) + (ys.length : Int)) ws.length, 2, 1, 1⟩ := ⟨_, rfl⟩
    have ck2 := markInt64S_c ws ((1 : Int) + 2 * (xs.length : Int) + (sumMk xs : Int) + (ys.length : Int)) _ _ _ y11 rfl rfl (by simp) hn1 (by omega)
    simp only at ck2
    rw [← ek2] at ck2
    have qk2 : m <+: k2 := by rw [ek2]; exact pre_set qk1 (by have := qv1.length_le; omega) _
    refine callsTo Try.cal28 ck2 ?_
    simp -dsimp -implicitDefEqProofs [hk]
    refine callsTo Try.cal24 (eqInt64S_c [] [] _ _ _ (RdI.nil _ _) (RdI.nil _ _) (by simp)) ?_
    simp -dsimp -implicitDefEqProofs [hk]
    refine callsTo Try.cal28 (markInt64S_nil _ _ _) ?_
    simp -dsimp -implicitDefEqProofs [hk]
    obtain ⟨kk, ekk⟩ : ∃ kk, kk = k2 := ⟨_, rfl⟩
    rw [← ekk]
    have qkk : m <+: kk := by rw [ekk]; exact qk2
    refine callsTo Try.cal29 (heldInt64S_c 0 1 _ _ (RdMk.nil 1 1 _ _) (by simp) (by decide)) ?_
    simp -dsimp -implicitDefEqProofs [hk]
    obtain ⟨_, t0, ct0, rfl, pt0, ot⟩ := toMarketS_c xs a kk (hr.pre qkk) hn hu
    refine callsTo Try.cal15 ct0 ?_
    simp -dsimp -implicitDefEqProofs [hk]
    have qt0 : m <+: t0 := (qkk.trans pt0)
    obtain ⟨_, t1, ct1, rfl, pt1, zt0⟩ := toInt64S_e ys b t0 (hs0.pre' qt0) hn0
    refine callsTo Try.cal21 ct1 ?_
    simp -dsimp -implicitDefEqProofs [hk]
    have qt1 : m <+: t1 := qt0.trans pt1
    obtain ⟨_, t2, ct2, rfl, pt2, zt1⟩ := toInt64S_e ws d t1 (hs1.pre' qt1) hn1
    refine callsTo Try.cal21 ct2 ?_
    simp -dsimp -implicitDefEqProofs [hk]
    have qt2 : m <+: t2 := qt1.trans pt2
    have et2 : t2 <+: t2 := pre_refl _
    have et1 : t1 <+: t2 := pt2.trans et2
    have et0 : t0 <+: t2 := pt1.trans et1
    have hC := implStock_c n xs ys ws _ _ _ t2 (ot.rd.pre et0) (RdI.of_get (xs := ys) (prefix_get et1 zt0) (by simp) rfl rfl) (RdI.of_get (xs := ws) (prefix_get et2 zt1) (by simp) rfl rfl) hn hu hn0 hn1
    rw [hO] at hC
    simp only [optV, optM, List.append_nil] at hC
    refine callsTo Try.cal38 hC ?_
    simp -dsimp -implicitDefEqProofs [hk]
    have gk : kk <+: t2 := pt0.trans et0
    refine callsTo Try.cal24 (eqInt64S_c [] [] _ _ _ (RdI.nil _ _) (RdI.nil _ _) (by simp)) ?_
    simp -dsimp -implicitDefEqProofs [hk]
    refine callsTo Try.cal29 (heldInt64S_c 0 1 _ _ (RdMk.nil 1 1 _ _) (by simp) (by decide)) ?_
    simp -dsimp -implicitDefEqProofs [hk]
    exact GC.dropP qt2 rfl rfl
  | some zs =>
    have hz : zs.length ≤ 1048576 := by rw [stockO_length hO]; exact hn0
    have hq : ¬ ((1 : Int) + (zs.length : Int) < 0) := by omega
    obtain ⟨_, u0, cu0, rfl, pu0, ou⟩ := toMarketS_c xs a m (hr) hn hu
    refine callsTo Try.cal15 cu0 ?_
    simp -dsimp -implicitDefEqProofs [hk, hq]
    have qu0 : m <+: u0 := pu0
    obtain ⟨_, u1, cu1, rfl, pu1, zu0⟩ := toInt64S_e ys b u0 (hs0.pre' qu0) hn0
    refine callsTo Try.cal21 cu1 ?_
    simp -dsimp -implicitDefEqProofs [hk, hq]
    have qu1 : m <+: u1 := qu0.trans pu1
    obtain ⟨_, u2, cu2, rfl, pu2, zu1⟩ := toInt64S_e ws d u1 (hs1.pre' qu1) hn1
    refine callsTo Try.cal21 cu2 ?_
    simp -dsimp -implicitDefEqProofs [hk, hq]
    have qu2 : m <+: u2 := qu1.trans pu2
    have eu2 : u2 <+: u2 := pre_refl _
    have eu1 : u1 <+: u2 := pu2.trans eu2
    have eu0 : u0 <+: u2 := pu1.trans eu1
    have hA := specStock_c n xs ys ws _ _ _ u2 (ou.rd.pre eu0) (RdI.of_get (xs := ys) (prefix_get eu1 zu0) (by simp) rfl rfl) (RdI.of_get (xs := ws) (prefix_get eu2 zu1) (by simp) rfl rfl) hn hu hn0 hn1
    rw [hO] at hA
    simp only [optV, optM] at hA
    refine callsTo Try.cal37 hA ?_
    simp -dsimp -implicitDefEqProofs [hk, hq]
    obtain ⟨A, eA⟩ : ∃ A, A = u2 ++ [(⟨zs.map (Value.int .i64), 2, 1, 2⟩ : AObj)] := ⟨_, rfl⟩
    have pA : u2 <+: A := by rw [eA]; exact ⟨_, rfl⟩
    have zA : A[u2.length]? = some ⟨zs.map (Value.int .i64), 2, 1, 2⟩ := by rw [eA]; simp
    rw [← eA]
    have qA : m <+: A := qu2.trans pA
    obtain ⟨_, v0, cv0, rfl, pv0, ov⟩ := toMarketS_c xs a A (hr.pre qA) hn hu
    refine callsTo Try.cal15 cv0 ?_
    simp -dsimp -implicitDefEqProofs [hk, hq]
    have qv0 : m <+: v0 := (qA.trans pv0)
    obtain ⟨_, v1, cv1, rfl, pv1, zv0⟩ := toInt64S_e ys b v0 (hs0.pre' qv0) hn0
    refine callsTo Try.cal21 cv1 ?_
    simp -dsimp -implicitDefEqProofs [hk, hq]
    have qv1 : m <+: v1 := qv0.trans pv1
    obtain ⟨_, v2, cv2, rfl, pv2, zv1⟩ := toInt64S_e ws d v1 (hs1.pre' qv1) hn1
    refine callsTo Try.cal21 cv2 ?_
    simp -dsimp -implicitDefEqProofs [hk, hq]
    have qv2 : m <+: v2 := qv1.trans pv2
    have ev2 : v2 <+: v2 := pre_refl _
    have ev1 : v1 <+: v2 := pv2.trans ev2
    have ev0 : v0 <+: v2 := pv1.trans ev1
    have fA : A <+: v2 := pv0.trans ev0
    have hB := implStock_c n xs ys ws _ _ _ v2 (ov.rd.pre ev0) (RdI.of_get (xs := ys) (prefix_get ev1 zv0) (by simp) rfl rfl) (RdI.of_get (xs := ws) (prefix_get ev2 zv1) (by simp) rfl rfl) hn hu hn0 hn1
    rw [hO] at hB
    simp only [optV, optM] at hB
    refine callsTo Try.cal38 hB ?_
    simp -dsimp -implicitDefEqProofs [hk, hq]
    obtain ⟨B, eB⟩ : ∃ B, B = v2 ++ [(⟨zs.map (Value.int .i64), 2, 1, 2⟩ : AObj)] := ⟨_, rfl⟩
    have pB : v2 <+: B := by rw [eB]; exact ⟨_, rfl⟩
    have zB : B[v2.length]? = some ⟨zs.map (Value.int .i64), 2, 1, 2⟩ := by rw [eB]; simp
    rw [← eB]
    have qB : m <+: B := qv2.trans pB
    have xB := prefix_get (fA.trans pB) zA
    refine callsTo Try.cal24 (eqInt64S_c zs zs _ _ _ (RdI.of_get (xs := zs) zB (by simp) rfl rfl) (RdI.of_get (xs := zs) xB (by simp) rfl rfl) hz) ?_
    simp -dsimp -implicitDefEqProofs [hk, hq]
    obtain ⟨_, w0, cw0, rfl, pw0, ow⟩ := toMarketS_c xs a B (hr.pre qB) hn hu
    refine callsTo Try.cal15 cw0 ?_
    simp -dsimp -implicitDefEqProofs [hk, hq]
    have qw0 : m <+: w0 := qB.trans pw0
    have fw0 : v2 <+: w0 := pB.trans pw0
    refine callsTo Try.cal17 (eqMarketS_c xs xs _ _ _ (ov.rd.pre (ev0.trans fw0)) ow.rd hn hu) ?_
    simp -dsimp -implicitDefEqProofs [hk, hq]
    obtain ⟨_, w1, cw1, rfl, pw1, zw0⟩ := toInt64S_e ys b w0 (hs0.pre' qw0) hn0
    refine callsTo Try.cal21 cw1 ?_
    simp -dsimp -implicitDefEqProofs [hk, hq]
    have qw1 : m <+: w1 := qw0.trans pw1
    have fw1 : v2 <+: w1 := fw0.trans pw1
    refine callsTo Try.cal24 (eqInt64S_c ys ys _ _ _ (RdI.of_get (xs := ys) (prefix_get (ev1.trans fw1) zv0) (by simp) rfl rfl) (RdI.of_get (xs := ys) zw0 (by simp) rfl rfl) hn0) ?_
    simp -dsimp -implicitDefEqProofs [hk, hq]
    obtain ⟨_, w2, cw2, rfl, pw2, zw1⟩ := toInt64S_e ws d w1 (hs1.pre' qw1) hn1
    refine callsTo Try.cal21 cw2 ?_
    simp -dsimp -implicitDefEqProofs [hk, hq]
    have qw2 : m <+: w2 := qw1.trans pw2
    have fw2 : v2 <+: w2 := fw1.trans pw2
    refine callsTo Try.cal24 (eqInt64S_c ws ws _ _ _ (RdI.of_get (xs := ws) (prefix_get (ev2.trans fw2) zv1) (by simp) rfl rfl) (RdI.of_get (xs := ws) zw1 (by simp) rfl rfl) hn1) ?_
    simp -dsimp -implicitDefEqProofs [hk, hq]
    have gB : B <+: w2 := pw0.trans (pw1.trans (pw2))
    obtain ⟨_, k0, ck0, rfl, fk⟩ := markMarketS_c xs v0 w2 _ _ 1 ov (ev0.trans fw2) hl (by decide)
    refine callsTo Try.cal32 ck0 ?_
    simp -dsimp -implicitDefEqProofs [hk, hq]
    have lA := qA.length_le
    have lA2 : A.length < v0.length := by obtain ⟨o, h1, _⟩ := ov; exact lt_of_get h1
    have lv0 := lt_of_get zv0
    have lv1 := lt_of_get zv1
    have y00 : k0[v0.length]? = some ⟨ys.map (Value.int .i64), 2, 1, 1⟩ := (fk.2 _ (.inr (by omega))).trans (prefix_get (ev1.trans fw2) zv0)
    have y01 : k0[v1.length]? = some ⟨ws.map (Value.int .i64), 2, 1, 1⟩ := (fk.2 _ (.inr (by omega))).trans (prefix_get (ev2.trans fw2) zv1)
    have qk0 : m <+: k0 := fk.pre qw2 lA
    have lu := lt_of_get zA
    have lB := lt_of_get zB
    have lv2' := ev0.length_le
    have x0 : k0[u2.length]? = some ⟨zs.map (Value.int .i64), 2, 1, 2⟩ := (fk.2 _ (.inl (by omega))).trans (prefix_get gB xB)
    have z0 : k0[v2.length]? = some ⟨zs.map (Value.int .i64), 2, 1, 2⟩ := (fk.2 _ (.inr (by omega))).trans (prefix_get gB zB)
    obtain ⟨k1, ek1⟩ : ∃ k1, k1 = k0.set v0.length ⟨mkCells 1 ((1 : Int) + 2 * (xs.length : Int) + (sumMk xs : Int)) ys.length, 2, 1, 1⟩ := ⟨_, rfl⟩
    have ck1 := markInt64S_c ys ((1 : Int) + 2 * (xs.length : Int) + (sumMk xs : Int)) _ _ _ y00 rfl rfl (by simp) hn0 (by omega)
    simp only at ck1
    rw [← ek1] at ck1
    have qk1 : m <+: k1 := by rw [ek1]; exact pre_set qk0 (by have := qv0.length_le; omega) _
    refine callsTo Try.cal28 ck1 ?_
    simp -dsimp -implicitDefEqProofs [hk, hq]
    have y11 : k1[v1.length]? = some ⟨ws.map (Value.int .i64), 2, 1, 1⟩ := by rw [ek1, List.getElem?_set_ne (by omega)]; exact y01
    have x1 : k1[u2.length]? = some ⟨zs.map (Value.int .i64), 2, 1, 2⟩ := by rw [ek1, List.getElem?_set_ne (by omega)]; exact x0
    have z1 : k1[v2.length]? = some ⟨zs.map (Value.int .i64), 2, 1, 2⟩ := by rw [ek1, List.getElem?_set_ne (by omega)]; exact z0
    obtain ⟨k2, ek2⟩ : ∃ k2, k2 = k1.set v1.length ⟨mkCells 1 ((1 : Int) + 2 * (xs.length : Int) + (sumMk xs : Int) + (ys.length : Int)) ws.length, 2, 1, 1⟩ := ⟨_, rfl⟩
    have ck2 := markInt64S_c ws ((1 : Int) + 2 * (xs.length : Int) + (sumMk xs : Int) + (ys.length : Int)) _ _ _ y11 rfl rfl (by simp) hn1 (by omega)
    simp only at ck2
    rw [← ek2] at ck2
    have qk2 : m <+: k2 := by rw [ek2]; exact pre_set qk1 (by have := qv1.length_le; omega) _
    refine callsTo Try.cal28 ck2 ?_
    simp -dsimp -implicitDefEqProofs [hk, hq]
    have x2 : k2[u2.length]? = some ⟨zs.map (Value.int .i64), 2, 1, 2⟩ := by rw [ek2, List.getElem?_set_ne (by omega)]; exact x1
    have z2 : k2[v2.length]? = some ⟨zs.map (Value.int .i64), 2, 1, 2⟩ := by rw [ek2, List.getElem?_set_ne (by omega)]; exact z1
    refine callsTo Try.cal24 (eqInt64S_c zs zs _ _ _ (RdI.of_get (xs := zs) z2 (by simp) rfl rfl) (RdI.of_get (xs := zs) x2 (by simp) rfl rfl) hz) ?_
    simp -dsimp -implicitDefEqProofs [hk, hq]
    obtain ⟨kk, ekk⟩ : ∃ kk, kk = k2.set v2.length ⟨mkCells 1 1 zs.length, 2, 1, 2⟩ := ⟨_, rfl⟩
    have ckk := markInt64S_c zs 1 _ _ _ z2 rfl rfl (by simp) hz (by decide)
    simp only at ckk
    rw [← ekk] at ckk
    have wkk : kk[v2.length]? = some ⟨mkCells 1 1 zs.length, 2, 1, 2⟩ := by rw [ekk]; exact get_set z2 _
    have xkk : kk[u2.length]? = some ⟨zs.map (Value.int .i64), 2, 1, 2⟩ := by rw [ekk, List.getElem?_set_ne (by omega)]; exact x2
    have qkk : m <+: kk := by rw [ekk]; exact pre_set qk2 qv2.length_le _
    refine callsTo Try.cal28 ckk ?_
    simp -dsimp -implicitDefEqProofs [hk, hq]
    refine callsTo Try.cal29 (heldInt64S_c zs.length 1 _ _ (RdMk.of_get zs.length wkk (by simp) rfl rfl) hz (by decide)) ?_
    simp -dsimp -implicitDefEqProofs [hk, hq]
    obtain ⟨_, t0, ct0, rfl, pt0, ot⟩ := toMarketS_c xs a kk (hr.pre qkk) hn hu
    refine callsTo Try.cal15 ct0 ?_
    simp -dsimp -implicitDefEqProofs [hk, hq]
    have qt0 : m <+: t0 := (qkk.trans pt0)
    obtain ⟨_, t1, ct1, rfl, pt1, zt0⟩ := toInt64S_e ys b t0 (hs0.pre' qt0) hn0
    refine callsTo Try.cal21 ct1 ?_
    simp -dsimp -implicitDefEqProofs [hk, hq]
    have qt1 : m <+: t1 := qt0.trans pt1
    obtain ⟨_, t2, ct2, rfl, pt2, zt1⟩ := toInt64S_e ws d t1 (hs1.pre' qt1) hn1
    refine callsTo Try.cal21 ct2 ?_
    simp -dsimp -implicitDefEqProofs [hk, hq]
    have qt2 : m <+: t2 := qt1.trans pt2
    have et2 : t2 <+: t2 := pre_refl _
    have et1 : t1 <+: t2 := pt2.trans et2
    have et0 : t0 <+: t2 := pt1.trans et1
    have hC := implStock_c n xs ys ws _ _ _ t2 (ot.rd.pre et0) (RdI.of_get (xs := ys) (prefix_get et1 zt0) (by simp) rfl rfl) (RdI.of_get (xs := ws) (prefix_get et2 zt1) (by simp) rfl rfl) hn hu hn0 hn1
    rw [hO] at hC
    simp only [optV, optM] at hC
    refine callsTo Try.cal38 hC ?_
    simp -dsimp -implicitDefEqProofs [hk, hq]
    have gk : kk <+: t2 := pt0.trans et0
    refine callsTo Try.cal24 (eqInt64S_c zs zs _ _ _ (RdI.of_get (xs := zs) (o := ⟨_, _, 1, 2⟩) (by simp; rfl) (by simp) rfl rfl) (RdI.of_get (xs := zs) (get_old (prefix_get gk xkk)) (by simp) rfl rfl) hz) ?_
    simp -dsimp -implicitDefEqProofs [hk, hq]
    refine callsTo Try.cal29 (heldInt64S_c zs.length 1 _ _ (RdMk.of_get zs.length (get_old (prefix_get gk wkk)) (by simp) rfl rfl) hz (by decide)) ?_
    simp -dsimp -implicitDefEqProofs [hk, hq]
    exact GC.dropP (pre_app qt2 _) rfl rfl

set_option maxRecDepth 100000 in
theorem fnExactStockAfterLifted (os : Os) (started : os.Started) (H : Type) (enc : TypeId × Value → H) :
    ReturnsInHanded {} Try.checked os 9 .any (Rows.fnExactStockAfterSpec.pre6 enc Try.prog Try.f9 Rows.fnExactStockAfterRow.domain false) (Rows.fnExactStockAfterSpec.post enc Try.prog Try.f9 false true false false) :=
  lawLifted (C := Try.checked) [.one I64, .one (.sl [I64, I64, .sl [I64], .sl [I64]]), .one (.sl [I64]), .one (.sl [I64])] 3 4 (by kernel_rfl) started (by kernel_rfl) Try.func9
    (ChangeSpec.witness6 (enc := enc) (C := Try.checked) false ⟨#[], #[.int .i64 0,.slice none 0 0,.slice none 0 0,.slice none 0 0], []⟩ 8 (by kernel_rfl) (by kernel_rfl) (by kernel_rfl) (by kernel_rfl))
    (by kernel_rfl) (by kernel_rfl) (by kernel_rfl) rfl (by kernel_rfl) rfl (fun ds h => match ds, h with | [_, _, _, _], _ => rfl) fun m vs h => by
      obtain ⟨u0, u1, u2, u3, rfl, hv0, hv1, hv2, hv3⟩ := h.four
      obtain ⟨n, rfl, _⟩ := CV.int hv0
      obtain ⟨a, xs, rfl, hl1, ht1, hq1⟩ := CV.slM hv1
      obtain ⟨b, ys, rfl, hms0, hs0, _⟩ := CV.sl1 hv2
      obtain ⟨d, ws, rfl, hms1, hs1, _⟩ := CV.sl1 hv3
      exact ⟨_, lawStockAfter_c n xs a ys b ws d m hq1 hl1 ht1 hs0 hms0 hs1 hms1⟩

theorem fnExactStockAfterHolds : Rows.FnExactStockAfterSaid :=
  OpenClaim.holds_of_wide 9 Try.f9 rfl rfl rfl rfl rfl rfl rfl ⟨rfl, rfl, rfl, rfl, rfl⟩ rfl rfl rfl rfl rfl (by kernel_rfl) Try.func9 (by kernel_rfl)
    (of_decide_eq_true (by kernel_rfl)) (by unfold Func.isWrapper; first | (rw [if_pos (by decide +kernel)]; kernel_rfl) | (rw [if_neg (by decide +kernel)]; exact ⟨rfl, rfl⟩))
    (fun os started H enc _ => fnExactStockAfterLifted os started H enc)
end Go.Proofs.Ytciekhcdkfhcoaa
