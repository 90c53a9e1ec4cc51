/-
  Contracts of the small functions that all the others use. Conditions: none.
-/
import Derived.Test.YtielbajlpnplaaaFacts
import Derived.Test.YtielbajlpnplaaaAbsApp
namespace Go.Proofs.Ytielbajlpnplaaa
open Go.Abs Go.RowKit

def inB (n lo hi : Int) : Bool := decide (lo ≤ n) && decide (n ≤ hi)

theorem l00In_c (n lo hi : Int) (m : Mem) : ACalls Try.prog 47 [.int .i64 n, .int .i64 lo, .int .i64 hi] m (.bool (inB n lo hi)) m := by
  refine acalls_of_vc Try.func47 rfl Try.fol (by kernel_rfl) ?_
  simp only [Try.f47]
  simp -dsimp -implicitDefEqProofs
  refine ⟨fun h => GC.eq ?_, fun h => GC.eq ?_⟩ <;> simp [inB, h]
theorem within_c (n lo hi : Int) (m : Mem) : ACalls Try.prog 42 [.int .i64 n, .int .i64 lo, .int .i64 hi] m (.bool (inB n lo hi)) m := by
  refine acalls_of_vc Try.func42 rfl Try.fol (by kernel_rfl) ?_
  simp only [Try.f42]
  simp -dsimp -implicitDefEqProofs
  refine ⟨fun h => GC.eq ?_, fun h => GC.eq ?_⟩ <;> simp [inB, h]

/-- What is left of the room. -/
def leftI (n : Nat) (b : Int) : Int := if b - n < 0 then -1 else b - n
theorem leftI_ok {n : Nat} {b : Int} (h : decide (leftI n b < 0) = false) : (n : Int) ≤ b ∧ leftI n b = b - n := by
  simp only [decide_eq_false_iff_not] at h
  unfold leftI at h ⊢
  split at h <;> split <;> omega
theorem take_succ_eq {α : Type} {xs ys : List α} {k : Nat} (h : k < xs.length) (h' : k < ys.length) (ht : xs.take k = ys.take k) (he : xs[k] = ys[k]) : xs.take (k + 1) = ys.take (k + 1) := by
  rw [List.take_add_one, List.take_add_one, List.getElem?_eq_getElem h, List.getElem?_eq_getElem h', ht, he]
end Go.Proofs.Ytielbajlpnplaaa
