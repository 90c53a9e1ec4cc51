/-
  Contracts of the small functions that all the others use. Conditions: none.
-/
import Derived.Test.YthadhfogmfcacaaDoorFacts
import Derived.Test.YthadhfogmfcacaaDoorAbsApp
set_option linter.unusedSimpArgs false
set_option linter.unusedVariables false
set_option linter.unusedSectionVars false
namespace Go.Proofs.YthadhfogmfcacaaDoor
open Go.Abs Go.RowKit

def inB (n lo hi : Int) : Bool := decide (lo ≤ n) && decide (n ≤ hi)

theorem l00In_c (n lo hi : Int) (m : Mem) : ACalls Tryd.prog 37 [.int .i64 n, .int .i64 lo, .int .i64 hi] m (.bool (inB n lo hi)) m := by
  refine acalls_of_vc Tryd.func37 rfl Tryd.fol (by kernel_rfl) ?_
  simp only [Tryd.f37]
  simp -dsimp -implicitDefEqProofs
  refine ⟨fun h => GC.eq ?_, fun h => GC.eq ?_⟩ <;> simp [inB, h]
theorem within_c (n lo hi : Int) (m : Mem) : ACalls Tryd.prog 38 [.int .i64 n, .int .i64 lo, .int .i64 hi] m (.bool (inB n lo hi)) m := by
  refine acalls_of_vc Tryd.func38 rfl Tryd.fol (by kernel_rfl) ?_
  simp only [Tryd.f38]
  simp -dsimp -implicitDefEqProofs
  refine ⟨fun h => GC.eq ?_, fun h => GC.eq ?_⟩ <;> simp [inB, h]

/-- What is left of the room. -/
def leftI (n : Nat) (b : Int) : Int := if b - n < 0 then -1 else b - n
theorem leftI_ok {n : Nat} {b : Int} (h : decide (leftI n b < 0) = false) : (n : Int) ≤ b ∧ leftI n b = b - n := by
  simp only [decide_eq_false_iff_not] at h
  unfold leftI at h ⊢
  split at h <;> split <;> omega
theorem take_succ_eq {α : Type} {xs ys : List α} {k : Nat} (h : k < xs.length) (h' : k < ys.length) (ht : xs.take k = ys.take k) (he : xs[k] = ys[k]) : xs.take (k + 1) = ys.take (k + 1) := by
  rw [List.take_add_one, List.take_add_one, List.getElem?_eq_getElem h, List.getElem?_eq_getElem h', ht, he]

/-! ### Lists of whole numbers -/
/-- The number at that place, as an index. -/
def ixAt (pile : List Int) (i : Nat) : Nat := (pile.getD i 0).toNat
theorem getI {xs : List Int} {k : Nat} (h : k < xs.length) : xs.getD k 0 = xs[k] := by simp [List.getD_eq_getElem?_getD, List.getElem?_eq_getElem h]
theorem eachWithin_c (xs : List Int) (a : Option Addr) (n lo hi : Int) (m : Mem) (hr : RdI m a xs) (hl : xs.length ≤ maxLen) : ACalls Tryd.prog 45 [.slice a xs.length xs.length, .int .i64 n, .int .i64 lo, .int .i64 hi] m (.bool (xs.all (inB · lo hi) && decide ((xs.length : Int) = n))) m := by
  refine acalls_of_vc Tryd.func45 rfl Tryd.fol (by kernel_rfl) ?_
  simp only [Tryd.f45]
  simp -dsimp -implicitDefEqProofs
  refine loopT (fun k' σ m' => ∃ k : Nat, k' = xs.length - k ∧ k ≤ xs.length ∧ m' = m ∧ σ 0 = some (.slice a xs.length xs.length) ∧ σ 11 = some (.slice a xs.length xs.length) ∧ σ 1 = some (.int .i64 n) ∧ σ 2 = some (.int .i64 lo) ∧ σ 3 = some (.int .i64 hi) ∧
      σ 12 = some (.int .i64 xs.length) ∧ σ 13 = some (.int .i64 k) ∧ (xs.take k).all (inB · lo hi) = true) _ ⟨0, rfl, Nat.zero_le _, rfl, by simp, by simp, by simp, by simp, by simp, by simp, by simp, by simp⟩ ?_
  rintro _ σ m' ⟨k, rfl, hk, rfl, s0, s11, s1, s2, s3, s12, s13, hok⟩
  by_cases hlt : k < xs.length
  · obtain ⟨id, off, o, rfl, hm, hkd, hsz, hc⟩ := hr.at_ hlt
    simp -dsimp -implicitDefEqProofs [s0, s1, s2, s3, s11, s12, s13, hlt, withO_of hm, hkd, hsz, withC_of hc]
    refine callsTo Tryd.cal38 (within_c _ _ _ _) ?_
    simp -dsimp -implicitDefEqProofs [s0, s1, s2, s3, s11, s12, s13, hlt, withO_of hm, hkd, hsz, withC_of hc]
    refine ⟨fun g => GC.eq ?_, fun g => ?_⟩
    · have : xs.all (inB · lo hi) = false := by
        rw [List.all_eq_false]
        exact ⟨xs[k], List.getElem_mem _, by simpa using g⟩
      simp [this]
    · refine invT (xs.length - (k + 1)) (by omega) ⟨k + 1, rfl, by omega, rfl, by simp [s0], by simp [s11], by simp [s1], by simp [s2], by simp [s3], by simp [s12], ?_, ?_⟩
      · simp
        have : xs.length ≤ 9223372036854775807 := hl
        rw [wrapI (by omega) (by omega)]
      · exact all_take_succ hlt hok (by simpa using g)
  · simp -dsimp -implicitDefEqProofs [s0, s1, s2, s3, s11, s12, s13, hlt]
    refine GC.eq ?_
    rw [List.take_of_length_le (by omega)] at hok
    simp [hok]
    rfl
end Go.Proofs.YthadhfogmfcacaaDoor
