/-
  Rows of Pot: the contracts of what copies, compares, marks and holds them. Conditions: none. Printed by a program (rowlib.py).
-/
import Derived.Test.YtnipgigpjhalkaaBase
set_option linter.unusedSimpArgs false
set_option linter.unusedVariables false
set_option linter.unusedSectionVars false
namespace Go.Proofs.Ytnipgigpjhalkaa
open Go.Abs Go.RowKit

theorem szPotS_c (a : Option Addr) (n : Nat) (b : Int) (m : Mem) (hn : n ≤ maxLen) (hb : 0 ≤ b ∧ b ≤ 1048576) : ACalls Try.prog 19 [.slice a n n, .int .i64 b] m (.int .i64 (leftI n b)) m := by
  refine acalls_of_vc Try.func19 rfl Try.fol (by kernel_rfl) ?_
  simp only [Try.f19]
  simp -dsimp -implicitDefEqProofs
  have : n ≤ 9223372036854775807 := hn
  rw [wrapI (by omega) (by omega)]
  refine ⟨fun h => GC.eq ?_, fun h => GC.eq ?_⟩ <;> simp at h <;> simp [leftI]
  · omega
  · omega
theorem toPot_c (p : I3) (m : Mem) : ACalls Try.prog 15 [.agg (v3 p).toArray] m (.agg (v3 p).toArray) m := by
  refine acalls_of_vc Try.func15 rfl Try.fol (by kernel_rfl) ?_
  simp only [Try.f15, v3]
  simp -dsimp -implicitDefEqProofs
  exact GC.dropEq rfl rfl
theorem toPotS_c (xs : List I3) (a : Option Addr) (m : Mem) (hr : RdG v3 3 m a xs) (hn : xs.length ≤ 1048576) :
    ACalls Try.prog 21 [.slice a xs.length xs.length] m (.slice (some ⟨m.length, 0, none⟩) xs.length xs.length) (m ++ [⟨(xs.map v3).flatten, 26, 3, 1⟩]) := by
  have hg : ∀ x, (v3 x).length = 3 := fun _ => rfl
  have hz : [Value.int .i64 0, .int .i64 0, .int .i64 0].length = 3 := rfl
  refine acalls_of_vc Try.func21 rfl Try.fol (by kernel_rfl) ?_
  simp only [Try.f21]
  simp -dsimp -implicitDefEqProofs
  refine need_intro (by omega) ?_
  refine loopN xs.length (fun k σ m' => m' = m ++ [⟨partCells v3 [.int .i64 0, .int .i64 0, .int .i64 0] xs k, 26, 3, 1⟩] ∧ σ 0 = some (.slice a xs.length xs.length) ∧
      σ 3 = some (.slice (some ⟨m.length, 0, none⟩) xs.length xs.length) ∧ σ 4 = some (.int .i64 k)) ⟨?_, by simp⟩ ?_
  · exact congrArg (fun c => m ++ [(⟨c, _, 3, 1⟩ : AObj)]) (partCells_zero v3 #[.int .i64 0, .int .i64 0, .int .i64 0] xs (by simp))
  rintro k σ m' hk ⟨rfl, s0, s3, s4⟩
  by_cases hlt : k < xs.length
  · obtain ⟨id, off, o, rfl, hm, hkd, hsz, hl, hrow, hc0, hc1, hc2⟩ := R3.at_ hr hlt
    have hw : IntKind.i64.wrap ((k : Int) + 1) = k + 1 := wrapI (by omega) (by omega)
    simp -dsimp -implicitDefEqProofs [s0, s3, s4, hlt, fun l => withO_of (get_old (l := l) hm), hkd, hsz, hl, hrow]
    refine callsTo Try.cal15 (toPot_c _ _) ?_
    simp -dsimp -implicitDefEqProofs [s0, s3, s4, hlt, fun l => withO_of (get_old (l := l) hm), hkd, hsz, hl, hrow]
    simp -dsimp -implicitDefEqProofs [s0, s3, s4, hlt, fun l => withO_of (get_old (l := l) hm), hkd, hsz, hl, hrow, hg, partCells_length hg hz xs hk, partCells_set hg hz xs hlt, hw]
    refine need_intro (by omega) ?_
    exact next_ hlt ⟨rfl, by simp [s0, s3, hw]⟩
  · simp -dsimp -implicitDefEqProofs [s0, s3, s4, hlt]
    obtain rfl : k = xs.length := by omega
    rw [partCells_all]
    exact GC.refl _ _ _
theorem eqPot_c (p q : I3) (m : Mem) : ACalls Try.prog 60 [.agg (v3 p).toArray, .agg (v3 q).toArray] m (.bool (decide (p = q))) m := by
  refine acalls_of_vc Try.func60 rfl Try.fol (by kernel_rfl) ?_
  simp only [Try.f60, v3]
  simp -dsimp -implicitDefEqProofs
  refine ⟨fun h => GC.dropEq ?_ rfl, fun h => ⟨fun h' => GC.dropEq ?_ rfl, fun h' => ⟨fun h'' => GC.dropEq ?_ rfl, fun h'' => GC.dropEq ?_ rfl⟩⟩⟩
  · simp at h; simp [Prod.ext_iff, h]
  · simp at h h'; simp [Prod.ext_iff, h']
  · simp at h h' h''; simp [Prod.ext_iff, h'']
  · simp at h h' h''; simp [Prod.ext_iff, h, h', h'']
theorem eqPotS_c (xs ys : List I3) (a b : Option Addr) (m : Mem) (hr : RdG v3 3 m a xs) (hs : RdG v3 3 m b ys) (hn : xs.length ≤ 1048576) :
    ACalls Try.prog 23 [.slice a xs.length xs.length, .slice b ys.length ys.length] m (.bool (decide (xs = ys))) m := by
  refine acalls_of_vc Try.func23 rfl Try.fol (by kernel_rfl) ?_
  simp only [Try.f23]
  simp -dsimp -implicitDefEqProofs
  refine ⟨fun h => GC.eq ?_, fun h => ?_⟩
  · have : xs ≠ ys := by rintro rfl; simp at h
    simp [this]
  have hxy : xs.length = ys.length := by simp at h; omega
  refine loopN xs.length (fun k σ m' => m' = m ∧ (σ 0 = some (.slice a xs.length xs.length) ∧ σ 1 = some (.slice b ys.length ys.length) ∧ σ 5 = some (.int .i64 k)) ∧ xs.take k = ys.take k) ⟨rfl, by simp, by simp⟩ ?_
  rintro k σ m' hk ⟨rfl, ⟨s0, s1, s5⟩, ht⟩
  by_cases hlt : k < xs.length
  · have hlt' : k < ys.length := by omega
    obtain ⟨id, off, o, rfl, hm, hkd, hsz, hl, hrow, hc0, hc1, hc2⟩ := R3.at_ hr hlt
    obtain ⟨id', off', o', rfl, hm', hkd', hsz', hl', hrow', hc0', hc1', hc2'⟩ := R3.at_ hs hlt'
    have hw : IntKind.i64.wrap ((k : Int) + 1) = k + 1 := wrapI (by omega) (by omega)
    simp -dsimp -implicitDefEqProofs [s0, s1, s5, hlt, hlt', withO_of hm, hkd, hsz, hl, hrow, withO_of hm', hkd', hsz', hl', hrow', hw]
    refine callsTo Try.cal60 (eqPot_c _ _ _) ?_
    simp -dsimp -implicitDefEqProofs [s0, s1, s5, hlt, hlt', withO_of hm, hkd, hsz, hl, hrow, withO_of hm', hkd', hsz', hl', hrow', hw]
    refine ⟨fun g => GC.eq ?_, fun g => ?_⟩
    · have : xs ≠ ys := by rintro rfl; simp at g
      simp [this]
    · exact next_ hlt ⟨rfl, by simp [s0, s1, hw], take_succ_eq hlt hlt' ht (by simpa using g)⟩
  · simp -dsimp -implicitDefEqProofs [s0, s1, s5, hlt]
    refine GC.eq ?_
    rw [List.take_of_length_le (by omega), List.take_of_length_le (by omega)] at ht
    simp [ht]
theorem markPotS_c (xs : List I3) (b : Int) (id : Nat) (o : AObj) (m : Mem) (hm : m[id]? = some o) (hc : o.cells = (xs.map v3).flatten) (hs : o.sz = 3) (hk : 1 ≤ o.kind ∧ o.kind ≤ 2) (hn : xs.length ≤ 1048576) (hb : 0 ≤ b ∧ b ≤ 10000000) :
    ACalls Try.prog 27 [.slice (some ⟨id, 0, none⟩) xs.length xs.length, .int .i64 b] m (.int .i64 (b + xs.length * 3)) (m.set id ⟨mkCells 3 b xs.length, o.elem, 3, o.kind⟩) := by
  have hg : ∀ x, (v3 x).length = 3 := fun _ => rfl
  obtain ⟨cells, ty, sz, kd⟩ := o
  simp only at hc hs hk
  subst hc; subst hs
  refine acalls_of_vc Try.func27 rfl Try.fol (by kernel_rfl) ?_
  simp only [Try.f27]
  simp -dsimp -implicitDefEqProofs
  refine loopN xs.length (fun k σ m' => m' = m.set id ⟨marking v3 3 b xs k, ty, 3, kd⟩ ∧ σ 0 = some (.slice (some ⟨id, 0, none⟩) xs.length xs.length) ∧ σ 1 = some (.int .i64 (b + (k : Int) * 3)) ∧ σ 5 = some (.int .i64 k)) ⟨?_, by simp⟩ ?_
  · rw [marking_zero, set_self hm]
  rintro k σ m' hk' ⟨rfl, s0, s1, s5⟩
  by_cases hlt : k < xs.length
  · have hw : IntKind.i64.wrap ((k : Int) + 1) = k + 1 := wrapI (by omega) (by omega)
    have hw0 : IntKind.i64.wrap (b + (k : Int) * 3 + 1) = b + (k : Int) * 3 + 1 := wrapI (by omega) (by omega)
    have hw1 : IntKind.i64.wrap (b + (k : Int) * 3 + 1 + 1) = b + (k : Int) * 3 + 1 + 1 := wrapI (by omega) (by omega)
    have hw2 : IntKind.i64.wrap (b + (k : Int) * 3 + 1 + 1 + 1) = b + (k + 1) * 3 := by rw [wrapI (by omega) (by omega)]; omega
    have hk2 : kd ≤ 2 := hk.2
    have hl := marking_length (g := v3) (sz := 3) hg b xs k
    simp -dsimp -implicitDefEqProofs [s0, s1, s5, hlt, withO_of (get_set hm _), hk, hk2, hw, hw0, hw1, hw2, hl, List.length_set, List.set_set]
    refine need_intro (by omega) ?_
    refine need_intro (by omega) ?_
    refine need_intro (by omega) ?_
    refine next_ hlt ⟨?_, by simp [s0, hw0, hw1, hw2, hw]⟩
    rw [marking_set3 hg b xs hlt]
  · simp -dsimp -implicitDefEqProofs [s0, s1, s5, hlt]
    obtain rfl : k = xs.length := by omega
    rw [marking_all]
    exact GC.refl _ _ _
theorem markPotS_nil (a : Option Addr) (b : Int) (m : Mem) : ACalls Try.prog 27 [.slice a 0 0, .int .i64 b] m (.int .i64 b) m := by
  refine acalls_of_vc Try.func27 rfl Try.fol (by kernel_rfl) ?_
  simp only [Try.f27]
  simp -dsimp -implicitDefEqProofs
  refine loopN 0 (fun k σ m' => m' = m ∧ σ 0 = some (.slice a 0 0) ∧ σ 1 = some (.int .i64 b) ∧ σ 5 = some (.int .i64 0)) ⟨rfl, by simp⟩ ?_
  rintro k σ m' hk ⟨rfl, s0, s1, s5⟩
  simp -dsimp -implicitDefEqProofs [s0, s1, s5]
  exact GC.refl _ _ _
end Go.Proofs.Ytnipgigpjhalkaa
