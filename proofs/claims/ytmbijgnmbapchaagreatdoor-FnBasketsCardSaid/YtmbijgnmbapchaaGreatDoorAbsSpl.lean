/-
  A callee that lays one new object of plain cells and answers a slice of all of it. Conditions: none.
-/
import Derived.Test.YtmbijgnmbapchaaGreatDoorAbsStr
set_option linter.unusedSimpArgs false
set_option linter.unusedVariables false
set_option linter.unusedSectionVars false
namespace Go.Abs
open Go.Proofs

theorem all2_lit : ∀ {ρ : List (Option Row)} (l : List Value), l.all litB = true → All2 (conc1 ρ) l l
  | _, [], _ => trivial
  | ρ, x :: l, h => by
    simp only [List.all_cons, Bool.and_eq_true] at h
    refine ⟨?_, all2_lit l h.2⟩
    have hx := h.1
    unfold litB at hx
    split at hx <;> simp_all [conc1, conc0]
theorem acalls_alloc {P : Program} {f : FuncId} {args : List Value} {m : Mem} {cells : List Value} {ty : TypeId} {n : Nat} (ha : args.all litB = true) (hl : cells.all litB = true) (hn : cells.length = n) (hm : n ≤ maxLen)
    (h : ∀ W0 w : World, Tabs W0 → Go.RowKit.Below W0.heap.size W0 w → Calls P f args.toArray w fun e w' => e = .returned (.slice (some ⟨w.heap.size, 0, none⟩) n n) ∧ w' = w.alloc (.cells cells.toArray ty)) :
    ACalls P f args m (.slice (some ⟨m.length, 0, none⟩) n n) (m ++ [⟨cells, ty, 1, 1⟩]) := by
  refine ⟨fun W0 ρ w args' hr hc => ?_⟩
  have : args' = args.toArray := by
    have := all_lit _ _ ha hc
    exact Array.ext' (by simpa using this)
  rw [this]
  refine (h W0 w hr.tab hr.below).mono fun e w' ⟨h1, h2⟩ => ⟨ρ ++ [some ⟨w.heap.size, 0, 1, n⟩], .slice (some ⟨w.heap.size, 0, none⟩) n n, Ext.app _ _, ?_, ?_, h1⟩
  · rw [h2]
    exact hr.alloc ty 1 n (all2_lit cells hl) (by omega) hm
  · have hlen := hr.len
    simp [conc3, conc2, conc1, conc0, ← hlen]
end Go.Abs
