/-
  Kinds, part 2: which kinds are valid, and which are the same. Conditions: none.
-/
import Derived.Test.YtlhcepcgjnlopaaRowKind
set_option linter.unusedSimpArgs false
set_option linter.unusedVariables false
set_option linter.unusedSectionVars false
namespace Go.Proofs.Ytlhcepcgjnlopaa
open Go.Abs Go.RowKit

/-- The kind at this place is valid, beside the one ahead of it. -/
def kinAt (xs : List I2) (k : Nat) : Bool :=
  match xs[k]? with
  | some p => inB p.1 1 200 && inB p.2 0 12 && (match k with | 0 => true | k + 1 => match xs[k]? with | some q => decide (q.1 < p.1) | none => true)
  | none => true
def kinTo (xs : List I2) (k : Nat) : Bool := (List.range k).all (kinAt xs)
def kinB (xs : List I2) : Bool := kinTo xs xs.length && decide (xs.length ≤ 4)
theorem kinTo_succ {xs : List I2} {k : Nat} (h : kinTo xs k = true) (h' : kinAt xs k = true) : kinTo xs (k + 1) = true := by
  unfold kinTo at *
  rw [List.range_succ, List.all_append, h]; simp [h']
theorem kinB_false {xs : List I2} {k : Nat} (hk : k < xs.length) (h : kinAt xs k = false) : kinB xs = false := by
  have : kinTo xs xs.length = false := by
    unfold kinTo
    rw [List.all_eq_false]
    exact ⟨k, by simpa using hk, by simp [h]⟩
  simp [kinB, this]
theorem kinAt_zero {xs : List I2} (h : 0 < xs.length) : kinAt xs 0 = (inB xs[0].1 1 200 && inB xs[0].2 0 12) := by simp [kinAt, List.getElem?_eq_getElem h]
theorem kinAt_succ {xs : List I2} {k : Nat} (h : k + 1 < xs.length) : kinAt xs (k + 1) = (inB xs[k + 1].1 1 200 && inB xs[k + 1].2 0 12 && decide (xs[k].1 < xs[k + 1].1)) := by
  simp [kinAt, List.getElem?_eq_getElem h, List.getElem?_eq_getElem (show k < xs.length by omega)]

theorem l18Ok_c (xs : List I2) (a : Option Addr) (m : Mem) (hr : RdG v2 2 m a xs) (hn : xs.length ≤ 1048576) : ACalls Try.prog 44 [.slice a xs.length xs.length] m (.bool (kinB xs)) m := by
  refine acalls_of_vc Try.func44 rfl Try.fol (by kernel_rfl) ?_
  simp only [Try.f44]
  simp -dsimp -implicitDefEqProofs
  refine loopT (fun c σ m' => ∃ (k : Nat) (j : Mem), c = xs.length - k ∧ k ≤ xs.length ∧ m' = m ++ j ∧ σ 0 = some (.slice a xs.length xs.length) ∧ σ 3 = some (.int .i64 k) ∧ kinTo xs k = true) _
    ⟨0, [], rfl, Nat.zero_le _, by simp, by simp, by simp, rfl⟩ ?_
  rintro _ σ m' ⟨k, j, rfl, hk, rfl, s0, si, hok⟩
  by_cases hlt : k < xs.length
  · obtain ⟨id, off, o, ha, hm, hkd, hsz, hl, hrow, hc0, hc1⟩ := R2.at_ hr hlt
    subst ha
    have hm' := fun l => withO_of (get_old (l := l) hm)
    simp -dsimp -implicitDefEqProofs [s0, si, hlt, hm', hkd, hsz, hl, hrow, v2]
    refine callsTo Try.cal68 (l00In_c _ _ _ _) ?_
    simp -dsimp -implicitDefEqProofs [s0, si, hlt, hm', hkd, hsz, hl, hrow, v2]
    cases k with
    | zero =>
      refine ⟨fun g1 => GC.dropEq (by simp at g1; rw [kinB_false hlt (by rw [kinAt_zero hlt]; simp [g1])]) rfl, fun g1 => ?_⟩
      refine callsTo Try.cal68 (l00In_c _ _ _ _) ?_
      simp -dsimp -implicitDefEqProofs [s0, si, hlt, hm', hkd, hsz, hl, hrow, v2]
      refine ⟨fun g2 => GC.dropEq (by simp at g2; rw [kinB_false hlt (by rw [kinAt_zero hlt]; simp [g2])]) rfl, fun g2 => ?_⟩
      simp at g1 g2
      refine invT (xs.length - 1) (by omega) ⟨1, _, rfl, by omega, rfl, by simp [s0], ?_, kinTo_succ hok (by rw [kinAt_zero hlt]; simp [g1, g2])⟩
      simp [IntKind.wrap_i64]
    | succ k =>
      have hk' : k < xs.length := by omega
      obtain ⟨d0, d1⟩ := R2.cell hr hm hk'
      have hw : IntKind.i64.wrap (k : Int) = k := wrapI (by omega) (by omega)
      refine ⟨fun g1 => GC.dropEq (by simp at g1; rw [kinB_false hlt (by rw [kinAt_succ hlt]; simp [g1])]) rfl, fun g1 => ?_⟩
      refine callsTo Try.cal68 (l00In_c _ _ _ _) ?_
      simp -dsimp -implicitDefEqProofs [s0, si, hlt, hm', hkd, hsz, hl, hrow, v2, hw, withC_of d0, hk']
      refine ⟨fun g2 => GC.dropEq (by simp at g2; rw [kinB_false hlt (by rw [kinAt_succ hlt]; simp [g2])]) rfl, fun g2 => ⟨fun g3 => GC.dropEq (by simp at g3; rw [kinB_false hlt (by rw [kinAt_succ hlt]; simp; omega)]) rfl, fun g3 => ?_⟩⟩
      simp at g1 g2 g3
      refine invT (xs.length - (k + 2)) (by omega) ⟨k + 2, _, rfl, by omega, rfl, by simp [s0], ?_, kinTo_succ hok (by rw [kinAt_succ hlt]; simp [g1, g2, g3])⟩
      simp
      rw [wrapI (by omega) (by omega)]
      omega
  · simp -dsimp -implicitDefEqProofs [s0, si, hlt]
    have : k = xs.length := by omega
    subst this
    exact GC.dropEq (by simp [kinB, hok]; omega) rfl
theorem implKinds_c (xs : List I2) (a : Option Addr) (m : Mem) (hr : RdG v2 2 m a xs) (hn : xs.length ≤ 1048576) : ACalls Try.prog 16 [.slice a xs.length xs.length] m (.bool (kinB xs)) m := by
  refine acalls_of_vc Try.func16 rfl Try.fol (by kernel_rfl) ?_
  simp only [Try.f16]
  simp -dsimp -implicitDefEqProofs
  refine loopT (fun c σ m' => ∃ (k : Nat) (j : Mem), c = xs.length - k ∧ k ≤ xs.length ∧ m' = m ++ j ∧ σ 0 = some (.slice a xs.length xs.length) ∧ σ 5 = some (.slice a xs.length xs.length) ∧ σ 6 = some (.int .i64 xs.length) ∧ σ 7 = some (.int .i64 k) ∧ kinTo xs k = true) _
    ⟨0, [], rfl, Nat.zero_le _, by simp, by simp, by simp, by simp, by simp, rfl⟩ ?_
  rintro _ σ m' ⟨k, j, rfl, hk, rfl, s0, s5, s6, si, hok⟩
  by_cases hlt : k < xs.length
  · obtain ⟨id, off, o, ha, hm, hkd, hsz, hl, hrow, hc0, hc1⟩ := R2.at_ hr hlt
    subst ha
    have hm' := fun l => withO_of (get_old (l := l) hm)
    simp -dsimp -implicitDefEqProofs [s0, s5, s6, si, hlt, hm', hkd, hsz, hl, hrow, v2]
    refine callsTo Try.cal46 (within_c _ _ _ _) ?_
    simp -dsimp -implicitDefEqProofs [s0, s5, s6, si, hlt, hm', hkd, hsz, hl, hrow, v2]
    cases k with
    | zero =>
      refine ⟨fun g1 => GC.dropEq (by simp at g1; rw [kinB_false hlt (by rw [kinAt_zero hlt]; simp [g1])]) rfl, fun g1 => ?_⟩
      refine callsTo Try.cal46 (within_c _ _ _ _) ?_
      simp -dsimp -implicitDefEqProofs [s0, s5, s6, si, hlt, hm', hkd, hsz, hl, hrow, v2]
      refine ⟨fun g2 => GC.dropEq (by simp at g2; rw [kinB_false hlt (by rw [kinAt_zero hlt]; simp [g2])]) rfl, fun g2 => ?_⟩
      simp at g1 g2
      refine invT (xs.length - 1) (by omega) ⟨1, _, rfl, by omega, rfl, by simp [s0], by simp [s5], by simp [s6], ?_, kinTo_succ hok (by rw [kinAt_zero hlt]; simp [g1, g2])⟩
      simp [IntKind.wrap_i64]
    | succ k =>
      have hk' : k < xs.length := by omega
      obtain ⟨d0, d1⟩ := R2.cell hr hm hk'
      have hw : IntKind.i64.wrap (k : Int) = k := wrapI (by omega) (by omega)
      refine ⟨fun g1 => GC.dropEq (by simp at g1; rw [kinB_false hlt (by rw [kinAt_succ hlt]; simp [g1])]) rfl, fun g1 => ?_⟩
      refine callsTo Try.cal46 (within_c _ _ _ _) ?_
      simp -dsimp -implicitDefEqProofs [s0, s5, s6, si, hlt, hm', hkd, hsz, hl, hrow, v2, hw, withC_of d0, hk']
      refine ⟨fun g2 => GC.dropEq (by simp at g2; rw [kinB_false hlt (by rw [kinAt_succ hlt]; simp [g2])]) rfl, fun g2 => ⟨fun g3 => GC.dropEq (by simp at g3; rw [kinB_false hlt (by rw [kinAt_succ hlt]; simp; omega)]) rfl, fun g3 => ?_⟩⟩
      simp at g1 g2 g3
      refine invT (xs.length - (k + 2)) (by omega) ⟨k + 2, _, rfl, by omega, rfl, by simp [s0], by simp [s5], by simp [s6], ?_, kinTo_succ hok (by rw [kinAt_succ hlt]; simp [g1, g2, g3])⟩
      simp
      rw [wrapI (by omega) (by omega)]
      omega
  · simp -dsimp -implicitDefEqProofs [s0, s5, s6, si, hlt]
    have : k = xs.length := by omega
    subst this
    exact GC.dropEq (by simp [kinB, hok]; omega) rfl
theorem specKinds_c (xs : List I2) (a : Option Addr) (m : Mem) (hr : RdG v2 2 m a xs) (hn : xs.length ≤ 1048576) : ACalls Try.prog 14 [.slice a xs.length xs.length] m (.bool (kinB xs)) m := by
  refine acalls_of_vc Try.func14 rfl Try.fol (by kernel_rfl) ?_
  simp only [Try.f14]
  simp -dsimp -implicitDefEqProofs
  refine callsTo Try.cal44 (l18Ok_c xs a _ hr hn) ?_
  simp -dsimp -implicitDefEqProofs
  exact GC.refl _ _ _
end Go.Proofs.Ytlhcepcgjnlopaa
