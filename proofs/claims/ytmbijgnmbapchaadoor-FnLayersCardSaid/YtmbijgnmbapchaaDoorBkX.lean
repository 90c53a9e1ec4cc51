/-
  Baskets, part 24: what merging leaves, told for both sides alike. Conditions: none.
-/
import Derived.Test.YtmbijgnmbapchaaDoorBkW
import Derived.Test.YtmbijgnmbapchaaDoorBkV
import Derived.Test.YtmbijgnmbapchaaDoorBkR
import Derived.Test.YtmbijgnmbapchaaDoorBkL
import Derived.Test.YtmbijgnmbapchaaDoorBkO
set_option linter.unusedSimpArgs false
set_option linter.unusedVariables false
set_option linter.unusedSectionVars false
namespace Go.Proofs.YtmbijgnmbapchaaDoor
open Go.Abs Go.RowKit

def mOk (st : Int) (ls : List LyT) (b : ByteArray) : Bool := okB st ls b && okB st (mergeL ls) b
def mSt (st : Int) (ls : List LyT) (b : ByteArray) : Int := if mOk st ls b then st else 0
def mLs (st : Int) (ls : List LyT) (b : ByteArray) : List LyT := if mOk st ls b then mergeL ls else []
def mB (st : Int) (ls : List LyT) (b : ByteArray) : ByteArray := if mOk st ls b then b else ⟨#[]⟩
def mC (st : Int) (ls : List LyT) (b : ByteArray) : Int := if okB st ls b then (if okB st (mergeL ls) b then 0 else 5) else 1
theorem merge_told {st : Int} {ls : List LyT} {b : ByteArray} {m m' : Mem} {v : Value} (h : MergeQ st ls b m v m') :
    m <+: m' ∧ ∃ A, v = .tuple #[.agg (bkC (mSt st ls b) A (mLs st ls b).length (mB st ls b)).toArray, .int .i64 (mC st ls b)] ∧ RdG vl 2 m' A (mLs st ls b) := by
  obtain ⟨hp, ⟨h1, rfl⟩ | ⟨h1, h2, rfl⟩ | ⟨j, h1, h2, rfl, hj, kd, ho, hk1, hk2⟩⟩ := h
  · exact ⟨hp, none, by simp [mSt, mLs, mB, mC, mOk, h1, bkC], by simp [mLs, mOk, h1]; exact RdG.nil _ _ _ _⟩
  · exact ⟨hp, none, by simp [mSt, mLs, mB, mC, mOk, h1, h2, bkC], by simp [mLs, mOk, h1, h2]; exact RdG.nil _ _ _ _⟩
  · refine ⟨hp, some ⟨j, 0, none⟩, by simp [mSt, mLs, mB, mC, mOk, h1, h2], ?_⟩
    have e : mLs st ls b = mergeL ls := by simp [mLs, mOk, h1, h2]
    rw [e]
    exact RdG.of_get (g := vl) (sz := 2) (fun _ => rfl) (mergeL ls) ho hk2 rfl rfl
theorem mLs_small {st : Int} {ls : List LyT} {b : ByteArray} {N : Nat} (hN : N ≤ 60) (h : SmallB N ls b) : (mLs st ls b).length ≤ 60 ∧ (∀ p ∈ mLs st ls b, p.1.size ≤ maxLen) ∧ (mB st ls b).size ≤ maxLen := by
  cases hok : mOk st ls b
  · simp [mLs, mB, hok]; exact Nat.zero_le _
  · have h1 : okB st ls b = true := by unfold mOk at hok; simp only [Bool.and_eq_true] at hok; exact hok.1
    have hg := (okB_good h1).1
    obtain ⟨i1, i2, i3⟩ := merge_all (P := fun s => s.size ≤ 20) (ls := ls) (fun p hp => ⟨h.2.1 p hp, (hg.2 p hp).2.1⟩) ls.length (Nat.le_refl _)
    rw [List.take_length] at i1 i2 i3
    have := h.1
    have := h.2.2
    simp only [mLs, mB, hok, if_true]
    unfold maxLen
    exact ⟨by omega, fun p hp => by have := (i3 p hp).1; omega, by omega⟩
end Go.Proofs.YtmbijgnmbapchaaDoor
