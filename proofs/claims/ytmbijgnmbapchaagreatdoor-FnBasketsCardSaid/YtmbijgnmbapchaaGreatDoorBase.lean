/-
  Contracts of the small functions that all the others use. Conditions: none.
-/
import Derived.Test.YtmbijgnmbapchaaGreatDoorFacts
import Derived.Test.YtmbijgnmbapchaaGreatDoorAbsApp
set_option linter.unusedSimpArgs false
set_option linter.unusedVariables false
set_option linter.unusedSectionVars false
namespace Go.Proofs.YtmbijgnmbapchaaGreatDoor
open Go.Abs Go.RowKit

def inB (n lo hi : Int) : Bool := decide (lo ≤ n) && decide (n ≤ hi)

theorem l00In_c (n lo hi : Int) (m : Mem) : ACalls Tryz.prog 36 [.int .i64 n, .int .i64 lo, .int .i64 hi] m (.bool (inB n lo hi)) m := by
  refine acalls_of_vc Tryz.func36 rfl Tryz.fol (by kernel_rfl) ?_
  simp only [Tryz.f36]
  simp -dsimp -implicitDefEqProofs
  refine ⟨fun h => GC.eq ?_, fun h => GC.eq ?_⟩ <;> simp [inB, h]
theorem within_c (n lo hi : Int) (m : Mem) : ACalls Tryz.prog 35 [.int .i64 n, .int .i64 lo, .int .i64 hi] m (.bool (inB n lo hi)) m := by
  refine acalls_of_vc Tryz.func35 rfl Tryz.fol (by kernel_rfl) ?_
  simp only [Tryz.f35]
  simp -dsimp -implicitDefEqProofs
  refine ⟨fun h => GC.eq ?_, fun h => GC.eq ?_⟩ <;> simp [inB, h]

/-- What is left of the room. -/
def leftI (n : Nat) (b : Int) : Int := if b - n < 0 then -1 else b - n
theorem leftI_ok {n : Nat} {b : Int} (h : decide (leftI n b < 0) = false) : (n : Int) ≤ b ∧ leftI n b = b - n := by
  simp only [decide_eq_false_iff_not] at h
  unfold leftI at h ⊢
  split at h <;> split <;> omega
theorem take_succ_eq {α : Type} {xs ys : List α} {k : Nat} (h : k < xs.length) (h' : k < ys.length) (ht : xs.take k = ys.take k) (he : xs[k] = ys[k]) : xs.take (k + 1) = ys.take (k + 1) := by
  rw [List.take_add_one, List.take_add_one, List.getElem?_eq_getElem h, List.getElem?_eq_getElem h', ht, he]

/-! ### Lists of whole numbers -/
/-- The number at that place, as an index. -/
def ixAt (pile : List Int) (i : Nat) : Nat := (pile.getD i 0).toNat
theorem getI {xs : List Int} {k : Nat} (h : k < xs.length) : xs.getD k 0 = xs[k] := by simp [List.getD_eq_getElem?_getD, List.getElem?_eq_getElem h]
end Go.Proofs.YtmbijgnmbapchaaGreatDoor
