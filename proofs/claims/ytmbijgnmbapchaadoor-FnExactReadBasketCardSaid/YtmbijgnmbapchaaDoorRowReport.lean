/-
  Rows of Report: the contracts of what copies, compares, marks and holds them. Conditions: none. Printed by a program (rowlib.py).
-/
import Derived.Test.YtmbijgnmbapchaaDoorBase
set_option linter.unusedSimpArgs false
set_option linter.unusedVariables false
set_option linter.unusedSectionVars false
namespace Go.Proofs.YtmbijgnmbapchaaDoor
open Go.Abs Go.RowKit

theorem eqReport_c (p q : I2) (m : Mem) : ACalls Tryd.prog 72 [.agg (v2 p).toArray, .agg (v2 q).toArray] m (.bool (decide (p = q))) m := by
  refine acalls_of_vc Tryd.func72 rfl Tryd.fol (by kernel_rfl) ?_
  simp only [Tryd.f72, v2]
  simp -dsimp -implicitDefEqProofs
  refine ⟨fun h => GC.dropEq ?_ rfl, fun h => ⟨fun h' => GC.dropEq ?_ rfl, fun h' => GC.dropEq ?_ rfl⟩⟩
  · simp at h; simp [Prod.ext_iff, h]
  · simp at h h'; simp [Prod.ext_iff, h']
  · simp at h h'; simp [Prod.ext_iff, h, h']
theorem eqReportS_c (xs ys : List I2) (a b : Option Addr) (m : Mem) (hr : RdG v2 2 m a xs) (hs : RdG v2 2 m b ys) (hn : xs.length ≤ 1048576) :
    ACalls Tryd.prog 21 [.slice a xs.length xs.length, .slice b ys.length ys.length] m (.bool (decide (xs = ys))) m := by
  refine acalls_of_vc Tryd.func21 rfl Tryd.fol (by kernel_rfl) ?_
  simp only [Tryd.f21]
  simp -dsimp -implicitDefEqProofs
  refine ⟨fun h => GC.eq ?_, fun h => ?_⟩
  · have : xs ≠ ys := by rintro rfl; simp at h
    simp [this]
  have hxy : xs.length = ys.length := by simp at h; omega
  refine loopN xs.length (fun k σ m' => m' = m ∧ (σ 0 = some (.slice a xs.length xs.length) ∧ σ 1 = some (.slice b ys.length ys.length) ∧ σ 5 = some (.int .i64 k)) ∧ xs.take k = ys.take k) ⟨rfl, by simp, by simp⟩ ?_
  rintro k σ m' hk ⟨rfl, ⟨s0, s1, s5⟩, ht⟩
  by_cases hlt : k < xs.length
  · have hlt' : k < ys.length := by omega
    obtain ⟨id, off, o, rfl, hm, hkd, hsz, hl, hrow, hc0, hc1⟩ := R2.at_ hr hlt
    obtain ⟨id', off', o', rfl, hm', hkd', hsz', hl', hrow', hc0', hc1'⟩ := R2.at_ hs hlt'
    have hw : IntKind.i64.wrap ((k : Int) + 1) = k + 1 := wrapI (by omega) (by omega)
    simp -dsimp -implicitDefEqProofs [s0, s1, s5, hlt, hlt', withO_of hm, hkd, hsz, hl, hrow, withO_of hm', hkd', hsz', hl', hrow', hw]
    refine callsTo Tryd.cal72 (eqReport_c _ _ _) ?_
    simp -dsimp -implicitDefEqProofs [s0, s1, s5, hlt, hlt', withO_of hm, hkd, hsz, hl, hrow, withO_of hm', hkd', hsz', hl', hrow', hw]
    refine ⟨fun g => GC.eq ?_, fun g => ?_⟩
    · have : xs ≠ ys := by rintro rfl; simp at g
      simp [this]
    · exact next_ hlt ⟨rfl, by simp [s0, s1, hw], take_succ_eq hlt hlt' ht (by simpa using g)⟩
  · simp -dsimp -implicitDefEqProofs [s0, s1, s5, hlt]
    refine GC.eq ?_
    rw [List.take_of_length_le (by omega), List.take_of_length_le (by omega)] at ht
    simp [ht]
theorem markReportS_c (xs : List I2) (b : Int) (id : Nat) (o : AObj) (m : Mem) (hm : m[id]? = some o) (hc : o.cells = (xs.map v2).flatten) (hs : o.sz = 2) (hk : 1 ≤ o.kind ∧ o.kind ≤ 2) (hn : xs.length ≤ 1048576) (hb : 0 ≤ b ∧ b ≤ 10000000) :
    ACalls Tryd.prog 22 [.slice (some ⟨id, 0, none⟩) xs.length xs.length, .int .i64 b] m (.int .i64 (b + xs.length * 2)) (m.set id ⟨mkCells 2 b xs.length, o.elem, 2, o.kind⟩) := by
  have hg : ∀ x, (v2 x).length = 2 := fun _ => rfl
  obtain ⟨cells, ty, sz, kd⟩ := o
  simp only at hc hs hk
  subst hc; subst hs
  refine acalls_of_vc Tryd.func22 rfl Tryd.fol (by kernel_rfl) ?_
  simp only [Tryd.f22]
  simp -dsimp -implicitDefEqProofs
  refine loopN xs.length (fun k σ m' => m' = m.set id ⟨marking v2 2 b xs k, ty, 2, kd⟩ ∧ σ 0 = some (.slice (some ⟨id, 0, none⟩) xs.length xs.length) ∧ σ 1 = some (.int .i64 (b + (k : Int) * 2)) ∧ σ 5 = some (.int .i64 k)) ⟨?_, by simp⟩ ?_
  · rw [marking_zero, set_self hm]
  rintro k σ m' hk' ⟨rfl, s0, s1, s5⟩
  by_cases hlt : k < xs.length
  · have hw : IntKind.i64.wrap ((k : Int) + 1) = k + 1 := wrapI (by omega) (by omega)
    have hw0 : IntKind.i64.wrap (b + (k : Int) * 2 + 1) = b + (k : Int) * 2 + 1 := wrapI (by omega) (by omega)
    have hw1 : IntKind.i64.wrap (b + (k : Int) * 2 + 1 + 1) = b + (k + 1) * 2 := by rw [wrapI (by omega) (by omega)]; omega
    have hk2 : kd ≤ 2 := hk.2
    have hl := marking_length (g := v2) (sz := 2) hg b xs k
    simp -dsimp -implicitDefEqProofs [s0, s1, s5, hlt, withO_of (get_set hm _), hk, hk2, hw, hw0, hw1, hl, List.length_set, List.set_set]
    refine need_intro (by omega) ?_
    refine need_intro (by omega) ?_
    refine next_ hlt ⟨?_, by simp [s0, hw0, hw1, hw]⟩
    rw [marking_set2 hg b xs hlt]
  · simp -dsimp -implicitDefEqProofs [s0, s1, s5, hlt]
    obtain rfl : k = xs.length := by omega
    rw [marking_all]
    exact GC.refl _ _ _
theorem markReportS_nil (a : Option Addr) (b : Int) (m : Mem) : ACalls Tryd.prog 22 [.slice a 0 0, .int .i64 b] m (.int .i64 b) m := by
  refine acalls_of_vc Tryd.func22 rfl Tryd.fol (by kernel_rfl) ?_
  simp only [Tryd.f22]
  simp -dsimp -implicitDefEqProofs
  refine loopN 0 (fun k σ m' => m' = m ∧ σ 0 = some (.slice a 0 0) ∧ σ 1 = some (.int .i64 b) ∧ σ 5 = some (.int .i64 0)) ⟨rfl, by simp⟩ ?_
  rintro k σ m' hk ⟨rfl, s0, s1, s5⟩
  simp -dsimp -implicitDefEqProofs [s0, s1, s5]
  exact GC.refl _ _ _
theorem heldReportS_c (n : Nat) (b : Int) (a : Option Addr) (m : Mem) (hr : RdG (mkRow 2 b) 2 m a (List.range n)) (hn : n ≤ 1048576) (hb : 0 ≤ b ∧ b ≤ 10000000) :
    ACalls Tryd.prog 24 [.slice a n n, .int .i64 b] m (.int .i64 (b + n * 2)) m := by
  refine acalls_of_vc Tryd.func24 rfl Tryd.fol (by kernel_rfl) ?_
  simp only [Tryd.f24]
  simp -dsimp -implicitDefEqProofs
  refine loopN n (fun k σ m' => m' = m ∧ σ 0 = some (.slice a n n) ∧ σ 1 = some (.int .i64 (b + (k : Int) * 2)) ∧ σ 5 = some (.int .i64 k)) ⟨rfl, by simp⟩ ?_
  rintro k σ m' hk ⟨rfl, s0, s1, s5⟩
  by_cases hlt : k < n
  · obtain ⟨id, off, o, rfl, hm, hkd, hsz, hl, hc⟩ := mkAt hr hlt
    rw [mkRow2] at hc
    have hd0 : o.cells[(off + k) * 2]? = some (.int .i64 (b + (k : Int) * 2)) := by have := hc 0 _ rfl; simpa using this
    have hd1 : o.cells[(off + k) * 2 + 1]? = some (.int .i64 (b + (k : Int) * 2 + 1)) := by have := hc 1 _ rfl; simpa using this
    have hw : IntKind.i64.wrap ((k : Int) + 1) = k + 1 := wrapI (by omega) (by omega)
    have hw0 : IntKind.i64.wrap (b + (k : Int) * 2 + 1) = b + (k : Int) * 2 + 1 := wrapI (by omega) (by omega)
    have hw1 : IntKind.i64.wrap (b + (k : Int) * 2 + 1 + 1) = b + (k + 1) * 2 := by rw [wrapI (by omega) (by omega)]; omega
    simp -dsimp -implicitDefEqProofs [s0, s1, s5, hlt, withO_of hm, hkd, hsz, withC_of hd0, withC_of hd1, hw, hw0, hw1]
    exact next_ hlt ⟨rfl, by simp [s0, hw, hw0, hw1]⟩
  · simp -dsimp -implicitDefEqProofs [s0, s1, s5, hlt]
    obtain rfl : k = n := by omega
    exact GC.refl _ _ _
end Go.Proofs.YtmbijgnmbapchaaDoor
