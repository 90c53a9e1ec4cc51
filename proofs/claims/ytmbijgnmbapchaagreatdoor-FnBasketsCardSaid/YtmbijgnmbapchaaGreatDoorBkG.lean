/-
  Baskets, part 7: baskets as arguments. Conditions: none.
-/
import Derived.Test.YtmbijgnmbapchaaGreatDoorBkE
import Derived.Test.YtmbijgnmbapchaaGreatDoorAbsLawD
set_option linter.unusedSimpArgs false
set_option linter.unusedVariables false
set_option linter.unusedSectionVars false
namespace Go.Proofs.YtmbijgnmbapchaaGreatDoor
open Go.Abs Go.RowKit

theorem CV.slL {f : Nat} {m : Mem} {v : Value} (h : CV f m (.sl [.str, I64]) v) : ∃ a, ∃ xs : List LyT, v = .slice a xs.length xs.length ∧ xs.length ≤ maxLen ∧ RdG vl 2 m a xs ∧ ∀ x ∈ xs, in64 x.2 ∧ x.1.size ≤ maxLen := by
  cases f with
  | zero => exact h.elim
  | succ f =>
    obtain ⟨a, n, rows, rfl, hn, hr, hc⟩ := h
    obtain ⟨xs, rfl, hq⟩ := rows_map (g := vl) (q := fun x => in64 x.2 ∧ x.1.size ≤ maxLen) (rows := rows) fun r hr' => by
      obtain ⟨x, y, rfl⟩ := list2 (hr.2.1 r hr')
      obtain ⟨x, rfl, hx⟩ := CV.strg (hc _ hr' 0 _ _ rfl rfl)
      obtain ⟨y, rfl, hy⟩ := CV.int (hc _ hr' 1 _ _ rfl rfl)
      exact ⟨(x, y), rfl, hy, hx⟩
    have : xs.length = n := by simpa using hr.1
    subst this
    exact ⟨a, xs, rfl, hn, hr, hq⟩
theorem AV.bask {f : Nat} {m : Mem} {v : Value} (h : AV f m (.agg [I64, .sl [.str, I64], .str]) v) : ∃ (st : Int) (a : Option Addr) (xs : List LyT) (b : ByteArray), v = .agg (bkC st a xs.length b).toArray ∧ in64 st ∧ b.size ≤ maxLen ∧ xs.length ≤ maxLen ∧ RdG vl 2 m a xs ∧ ∀ x ∈ xs, in64 x.2 ∧ x.1.size ≤ maxLen := by
  obtain ⟨cs, rfl, hl, hc⟩ := h
  obtain ⟨c1, c2, c3, rfl⟩ := list3 hl
  obtain ⟨x, rfl, hx⟩ := CV.int (hc 0 _ _ rfl rfl)
  obtain ⟨a, xs, rfl, hn, hr, hq⟩ := CV.slL (hc 1 _ _ rfl rfl)
  obtain ⟨z, rfl, hz⟩ := CV.strg (hc 2 _ _ rfl rfl)
  exact ⟨x, a, xs, z, rfl, hx, hz, hn, hr, hq⟩
def IsT (v : Value) (_ : Mem) : Prop := v = .bool true
end Go.Proofs.YtmbijgnmbapchaaGreatDoor
