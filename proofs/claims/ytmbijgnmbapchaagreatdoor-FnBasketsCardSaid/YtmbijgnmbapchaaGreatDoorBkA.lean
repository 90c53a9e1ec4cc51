/-
  Baskets, part 1: the contracts of what copies, measures and compares layers and baskets. Conditions: none.
-/
import Derived.Test.YtmbijgnmbapchaaGreatDoorBase
import Derived.Test.YtmbijgnmbapchaaGreatDoorAbsStr
set_option linter.unusedSimpArgs false
set_option linter.unusedVariables false
set_option linter.unusedSectionVars false
namespace Go.Proofs.YtmbijgnmbapchaaGreatDoor
open Go.Abs Go.RowKit

/-! ### Layers -/
abbrev LyT := ByteArray × Int
def vl (p : LyT) : List Value := [.string p.1, .int .i64 p.2]
theorem RL.at_ {m : Mem} {a : Option Addr} {xs : List LyT} (h : RdG vl 2 m a xs) {i : Nat} (hi : i < xs.length) :
    ∃ id off o, a = some ⟨id, off, none⟩ ∧ m[id]? = some o ∧ o.kind ≤ 2 ∧ o.sz = 2 ∧ (off + i) * 2 + 2 ≤ o.cells.length ∧ (o.cells.drop ((off + i) * 2)).take 2 = vl xs[i] ∧
      o.cells[(off + i) * 2]? = some (.string xs[i].1) ∧ o.cells[(off + i) * 2 + 1]? = some (.int .i64 xs[i].2) := by
  obtain ⟨id, off, o, ha, hm, hk, hsz, h2, h1, hc⟩ := RdG.at_ h hi
  exact ⟨id, off, o, ha, hm, hk, hsz, h2, h1, by have := hc 0 _ rfl; simpa using this, hc 1 _ rfl⟩
def sumLy (xs : List LyT) : Nat := (xs.map fun p => p.1.size).sum
theorem sumLy_succ {xs : List LyT} {k : Nat} (h : k < xs.length) : sumLy (xs.take (k + 1)) = sumLy (xs.take k) + xs[k].1.size := by
  unfold sumLy
  rw [List.take_add_one, List.getElem?_eq_getElem h, List.map_append, List.sum_append]; simp
theorem sumLy_take (xs : List LyT) (k : Nat) : sumLy (xs.take k) ≤ sumLy xs := by
  have : sumLy xs = sumLy (xs.take k) + sumLy (xs.drop k) := by
    conv => lhs; rw [← List.take_append_drop k xs]
    unfold sumLy
    rw [List.map_append, List.sum_append]
  omega
theorem leftI_neg {n : Nat} {b : Int} (h : decide (leftI n b < 0) = true) : leftI n b = -1 ∧ b - n < 0 := by
  simp only [decide_eq_true_eq] at h
  unfold leftI at h ⊢
  split at h <;> split <;> omega
/-! ### Baskets -/
/-- A basket's cells. -/
def bkC (st : Int) (a : Option Addr) (n : Nat) (b : ByteArray) : List Value := [.int .i64 st, .slice a n n, .string b]
/-- What a copy of a basket is: its layers are of its own. -/
def BkNew (st : Int) (xs : List LyT) (b : ByteArray) (m : Mem) (v : Value) (m' : Mem) : Prop :=
  ∃ j, v = .agg (bkC st (some ⟨j, 0, none⟩) xs.length b).toArray ∧ m <+: m' ∧ m.length ≤ j ∧ m'[j]? = some ⟨(xs.map vl).flatten, 54, 2, 1⟩
end Go.Proofs.YtmbijgnmbapchaaGreatDoor
