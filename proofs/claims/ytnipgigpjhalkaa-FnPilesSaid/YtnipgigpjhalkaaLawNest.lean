/-
  How deep a pot lies: the longest chain of pots that fit into one another. Conditions: none.
-/
import Derived.Test.YtnipgigpjhalkaaAbsApp
set_option linter.unusedSimpArgs false
set_option linter.unusedVariables false
set_option linter.unusedSectionVars false
namespace Go.Abs

section
variable (n : Nat) (F : Nat → Nat → Bool)
/-- The greatest of the first that fit. -/
def maxFit (d : Nat → Int) (j : Nat) : Nat → Int
  | 0 => 0
  | k + 1 => if F k j then max (maxFit d j k) (d k) else maxFit d j k
def dep : Nat → Nat → Int
  | 0, _ => 0
  | f + 1, j => maxFit F (dep f) j n + 1
variable {n F}
theorem maxFit_nonneg (d : Nat → Int) (j : Nat) : ∀ k, 0 ≤ maxFit F d j k
  | 0 => Int.le_refl _
  | k + 1 => by have := maxFit_nonneg d j k; unfold maxFit; split <;> omega
theorem maxFit_congr {d d' : Nat → Int} {j : Nat} : ∀ {k}, (∀ i, i < k → F i j = true → d i = d' i) → maxFit F d j k = maxFit F d' j k
  | 0, _ => rfl
  | k + 1, h => by
    have ih := maxFit_congr (k := k) fun i hi => h i (by omega)
    unfold maxFit
    by_cases hf : F k j = true
    · rw [if_pos hf, if_pos hf, ih, h k (by omega) hf]
    · rw [if_neg hf, if_neg hf, ih]
theorem maxFit_le {d d' : Nat → Int} {j : Nat} : ∀ {k}, (∀ i, i < k → F i j = true → d i ≤ d' i) → maxFit F d j k ≤ maxFit F d' j k
  | 0, _ => Int.le_refl _
  | k + 1, h => by
    have ih := maxFit_le (k := k) fun i hi => h i (by omega)
    unfold maxFit
    by_cases hf : F k j = true
    · have := h k (by omega) hf
      rw [if_pos hf, if_pos hf]; omega
    · rw [if_neg hf, if_neg hf]; exact ih
theorem maxFit_bound {d : Nat → Int} {j : Nat} {b : Int} (hb : 0 ≤ b) : ∀ {k}, (∀ i, i < k → F i j = true → d i ≤ b) → maxFit F d j k ≤ b
  | 0, _ => hb
  | k + 1, h => by
    have ih := maxFit_bound hb (k := k) fun i hi => h i (by omega)
    unfold maxFit
    by_cases hf : F k j = true
    · have := h k (by omega) hf
      rw [if_pos hf]; omega
    · rw [if_neg hf]; exact ih
theorem dep_nonneg : ∀ f j, 0 ≤ dep n F f j
  | 0, _ => Int.le_refl _
  | f + 1, j => by have := maxFit_nonneg (F := F) (dep n F f) j n; unfold dep; omega
theorem dep_le : ∀ f j, dep n F f j ≤ f
  | 0, _ => Int.le_refl _
  | f + 1, j => by
    have := maxFit_bound (F := F) (d := dep n F f) (j := j) (b := (f : Int)) (by omega) (k := n) fun i _ _ => dep_le f i
    unfold dep; omega
/-- With a rank that rises from pot to pot, enough rounds tell the depth. -/
theorem dep_stable {r : Nat → Nat} (hr : ∀ i j, i < n → j < n → F i j = true → r i < r j) : ∀ f j, j < n → r j < f → dep n F (f + 1) j = dep n F f j
  | 0, _, _, h => by omega
  | f + 1, j, hj, h => by
    show maxFit F (dep n F (f + 1)) j n + 1 = maxFit F (dep n F f) j n + 1
    rw [maxFit_congr (F := F) (d := dep n F (f + 1)) (d' := dep n F f) fun i hi hf => dep_stable hr f i hi (by have := hr i j hi hj hf; omega)]
variable (n F) in
def dpt (j : Nat) : Int := dep n F n j
theorem dpt_eq {r : Nat → Nat} (hr : ∀ i j, i < n → j < n → F i j = true → r i < r j) (hn : ∀ j, j < n → r j < n) {j : Nat} (hj : j < n) : dpt n F j = maxFit F (dpt n F) j n + 1 := (dep_stable hr n j hj (hn j hj)).symm
theorem dpt_bounds (j : Nat) : 0 ≤ dpt n F j ∧ dpt n F j ≤ n := ⟨dep_nonneg _ _, dep_le _ _⟩
variable (n F) in
/-- The first of that depth that fits into the last. -/
def nextPot (t : Int) (acc : List Nat) : Nat → Option Nat
  | 0 => none
  | k + 1 => match nextPot t acc k with
    | some j => some j
    | none => if dpt n F k = t && (match acc.getLast? with | none => true | some l => F k l) then some k else none
variable (n F) in
def nestTo : Nat → List Nat → List Nat
  | 0, acc => acc
  | t + 1, acc => nestTo t (match nextPot n F ((t : Int) + 1) acc n with | some j => acc ++ [j] | none => acc)
variable (n F) in
def topD : Nat → Int
  | 0 => 0
  | k + 1 => max (topD k) (dpt n F k)
theorem nestTo_length : ∀ t acc, (nestTo n F t acc).length ≤ acc.length + t
  | 0, acc => by simp [nestTo]
  | t + 1, acc => by
    unfold nestTo
    refine Nat.le_trans (nestTo_length t _) ?_
    split <;> simp <;> omega
end
end Go.Abs
