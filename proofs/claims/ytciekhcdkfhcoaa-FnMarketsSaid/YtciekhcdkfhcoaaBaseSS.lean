/-
  Lists of lists of whole numbers: the contracts of what copies, counts and compares them. Conditions: none.
-/
import Derived.Test.YtciekhcdkfhcoaaBase
set_option linter.unusedSimpArgs false
set_option linter.unusedVariables false
set_option linter.unusedSectionVars false
namespace Go.Proofs.Ytciekhcdkfhcoaa
open Go.Abs Go.RowKit

theorem szInt64S_c (a : Option Addr) (n : Nat) (b : Int) (m : Mem) (hn : n ≤ maxLen) (hb : 0 ≤ b ∧ b ≤ 1048576) : ACalls Try.prog 52 [.slice a n n, .int .i64 b] m (.int .i64 (leftI n b)) m := by
  refine acalls_of_vc Try.func52 rfl Try.fol (by kernel_rfl) ?_
  simp only [Try.f52]
  simp -dsimp -implicitDefEqProofs
  have : n ≤ 9223372036854775807 := hn
  rw [wrapI (by omega) (by omega)]
  refine ⟨fun h => GC.eq ?_, fun h => GC.eq ?_⟩ <;> simp at h <;> simp [leftI]
  · omega
  · omega
theorem leftI_neg {n : Nat} {b : Int} (h : decide (leftI n b < 0) = true) : leftI n b = -1 ∧ b - n < 0 := by
  simp only [decide_eq_true_eq] at h
  unfold leftI at h ⊢
  split at h <;> split <;> omega
end Go.Proofs.Ytciekhcdkfhcoaa
