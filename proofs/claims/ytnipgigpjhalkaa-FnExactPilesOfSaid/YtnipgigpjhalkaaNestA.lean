/-
  Nests, part 1: which pots are valid. Conditions: none.
-/
import Derived.Test.YtnipgigpjhalkaaPotA
import Derived.Test.YtnipgigpjhalkaaRowPot
set_option linter.unusedSimpArgs false
set_option linter.unusedVariables false
set_option linter.unusedSectionVars false
namespace Go.Proofs.Ytnipgigpjhalkaa
open Go.Abs Go.RowKit

def potsB (xs : List I3) : Bool := xs.all potB && decide (xs.length ≤ 12)
theorem potsB_false {xs : List I3} {k : Nat} (h : k < xs.length) (h' : potB xs[k] = false) : potsB xs = false := by simp [potsB, all_false_of h h']
theorem l19Ok_c (xs : List I3) (a : Option Addr) (m : Mem) (hr : RdG v3 3 m a xs) (hn : xs.length ≤ 1048576) : ACalls Try.prog 59 [.slice a xs.length xs.length] m (.bool (potsB xs)) m := by
  refine acalls_of_vc Try.func59 rfl Try.fol (by kernel_rfl) ?_
  simp only [Try.f59]
  simp -dsimp -implicitDefEqProofs
  refine loopN xs.length (fun k σ m' => m' = m ∧ (σ 0 = some (.slice a xs.length xs.length) ∧ σ 3 = some (.int .i64 k)) ∧ (xs.take k).all potB = true) ⟨rfl, by simp, by simp⟩ ?_
  rintro k σ m' hk ⟨rfl, ⟨s0, s3⟩, hok⟩
  by_cases hlt : k < xs.length
  · obtain ⟨id, off, o, rfl, hm, hkd, hsz, hl, hrow, _⟩ := R3.at_ hr hlt
    have hw : IntKind.i64.wrap ((k : Int) + 1) = k + 1 := wrapI (by omega) (by omega)
    simp -dsimp -implicitDefEqProofs [s0, s3, hlt, withO_of hm, hkd, hsz, hw]
    refine callsTo Try.cal81 (l19One_c xs[k] _ _ _ (IsP.row hr hlt)) ?_
    simp -dsimp -implicitDefEqProofs [s0, s3, hlt, withO_of hm, hkd, hsz, hw]
    refine ⟨fun g => GC.eq (by rw [potsB_false hlt (by simpa using g)]), fun g => next_ hlt ⟨rfl, by simp [s0, hw], all_take_succ hlt hok (by simpa using g)⟩⟩
  · simp -dsimp -implicitDefEqProofs [s0, s3, hlt]
    rw [List.take_of_length_le (by omega)] at hok
    exact GC.eq (by simp [potsB, hok]; omega)
theorem validPots_c (xs : List I3) (a : Option Addr) (m : Mem) (hr : RdG v3 3 m a xs) (hn : xs.length ≤ 1048576) : ACalls Try.prog 22 [.slice a xs.length xs.length] m (.bool (potsB xs)) m := by
  refine acalls_of_vc Try.func22 rfl Try.fol (by kernel_rfl) ?_
  simp only [Try.f22]
  simp -dsimp -implicitDefEqProofs
  refine loopN xs.length (fun k σ m' => m <+: m' ∧ (σ 0 = some (.slice a xs.length xs.length) ∧ σ 5 = some (.slice a xs.length xs.length) ∧ σ 6 = some (.int .i64 xs.length) ∧ σ 7 = some (.int .i64 k)) ∧ (xs.take k).all potB = true) ⟨pre_refl m, by simp, by simp⟩ ?_
  rintro k σ m' hk ⟨hp, ⟨s0, s5, s6, s7⟩, hok⟩
  by_cases hlt : k < xs.length
  · obtain ⟨id, off, o, rfl, hm, hkd, hsz, hl, hrow, _⟩ := R3.at_ hr hlt
    have hw : IntKind.i64.wrap ((k : Int) + 1) = k + 1 := wrapI (by omega) (by omega)
    have hm' := prefix_get hp hm
    simp -dsimp -implicitDefEqProofs [s0, s5, s6, s7, hlt, withO_of hm', fun l => withO_of (get_old (l := l) hm'), hkd, hsz, hl, hrow, v3, hw]
    refine callsTo Try.cal56 (isPot_c xs[k] _) ?_
    simp -dsimp -implicitDefEqProofs [s0, s5, s6, s7, hlt, withO_of hm', fun l => withO_of (get_old (l := l) hm'), hkd, hsz, hl, hrow, v3, hw]
    refine ⟨fun g => GC.dropP (pre_app hp _) (by rw [potsB_false hlt (by simpa using g)]) rfl, fun g => next_ hlt ⟨pre_app hp _, by simp [s0, s5, s6, hw], all_take_succ hlt hok (by simpa using g)⟩⟩
  · simp -dsimp -implicitDefEqProofs [s0, s5, s6, s7, hlt]
    rw [List.take_of_length_le (by omega)] at hok
    exact GC.dropP hp (by simp [potsB, hok]; omega) rfl
theorem specValidPots_c (xs : List I3) (a : Option Addr) (m : Mem) (hr : RdG v3 3 m a xs) (hn : xs.length ≤ 1048576) : ACalls Try.prog 20 [.slice a xs.length xs.length] m (.bool (potsB xs)) m := by
  refine acalls_of_vc Try.func20 rfl Try.fol (by kernel_rfl) ?_
  simp only [Try.f20]
  simp -dsimp -implicitDefEqProofs
  refine callsTo Try.cal59 (l19Ok_c xs a _ hr hn) ?_
  simp -dsimp -implicitDefEqProofs
  exact GC.refl _ _ _

end Go.Proofs.Ytnipgigpjhalkaa
