/-
  Jobs, part 11: long baskets first. Conditions: none.
-/
import Derived.Test.YtaggfcnaedadaaaJobH
import Derived.Test.YtaggfcnaedadaaaSort
set_option linter.unusedSimpArgs false
set_option linter.unusedVariables false
set_option linter.unusedSectionVars false
namespace Go.Proofs.Ytaggfcnaedadaaa
open Go.Abs Go.RowKit

/-- Does the basket x go ahead of the basket y? -/
def longP (js : List I2) (x y : Int) : Bool := decide ((jobAt js y.toNat).1 < (jobAt js x.toNat).1)
def orderL (js : List I2) (n : Nat) : List Int := sortT (longP js) (idxL n)
theorem orderL_succ (js : List I2) (n : Nat) : orderL js (n + 1) = insT (longP js n) n (orderL js n) := by
  unfold orderL sortT
  rw [idxL_succ, List.foldl_append]; rfl
theorem orderL_length (js : List I2) : ∀ n, (orderL js n).length = n
  | 0 => rfl
  | n + 1 => by rw [orderL_succ, insT_length, orderL_length js n]
theorem orderL_mem (js : List I2) : ∀ (n : Nat) (x : Int), x ∈ orderL js n → ∃ i : Nat, x = i ∧ i < n
  | 0, x, h => by simp [orderL, idxL, sortT] at h
  | n + 1, x, h => by
    rw [orderL_succ, insT_mem] at h
    rcases h with rfl | h
    · exact ⟨n, rfl, by omega⟩
    · obtain ⟨i, hi, hl⟩ := orderL_mem js n x h
      exact ⟨i, hi, by omega⟩
/-- The first worker of the least load, of the first k, who can. -/
def bestW (ss loads : List Int) (s : Int) : Nat → Int
  | 0 => -1
  | k + 1 => if s ≤ ss.getD k 0 ∧ (bestW ss loads s k < 0 ∨ loads.getD k 0 < loads.getD (bestW ss loads s k).toNat 0) then (k : Int) else bestW ss loads s k
theorem bestW_lt (ss loads : List Int) (s : Int) : ∀ k, -1 ≤ bestW ss loads s k ∧ bestW ss loads s k < k
  | 0 => by simp [bestW]
  | k + 1 => by
    have := bestW_lt ss loads s k
    unfold bestW
    split <;> omega
theorem bestW_some (ss loads : List Int) (s : Int) : ∀ k, (∃ w, w < k ∧ s ≤ ss.getD w 0) → 0 ≤ bestW ss loads s k
  | 0, ⟨w, h, _⟩ => by omega
  | k + 1, ⟨w, h, hs⟩ => by
    unfold bestW
    split
    · omega
    · rename_i hn
      by_cases hw : w = k
      · subst hw
        rcases Int.lt_or_le (bestW ss loads s w) 0 with h0 | h0
        · exact absurd ⟨hs, .inl h0⟩ hn
        · exact h0
      · exact bestW_some ss loads s k ⟨w, by omega, hs⟩
/-- One basket given out. -/
def longStep (js : List I2) (ss : List Int) (st : List Int × List Int) (x : Int) : List Int × List Int :=
  let b := bestW ss st.2 (jobAt js x.toNat).2 ss.length
  (st.1.set x.toNat b, st.2.set b.toNat (w64 (st.2.getD b.toNat 0 + (jobAt js x.toNat).1)))
def longT (js : List I2) (ss : List Int) (k : Nat) : List Int × List Int := ((orderL js js.length).take k).foldl (longStep js ss) (List.replicate js.length 0, List.replicate ss.length 0)
theorem longT_succ (js : List I2) (ss : List Int) {k : Nat} (h : k < js.length) : longT js ss (k + 1) = longStep js ss (longT js ss k) ((orderL js js.length)[k]'(by rw [orderL_length]; exact h)) := by
  unfold longT
  rw [List.take_add_one, List.getElem?_eq_getElem (by rw [orderL_length]; exact h), List.foldl_append]; rfl
theorem longT_length (js : List I2) (ss : List Int) : ∀ k, k ≤ js.length → (longT js ss k).1.length = js.length ∧ (longT js ss k).2.length = ss.length
  | 0, _ => by simp [longT]
  | k + 1, h => by
    have := longT_length js ss k (by omega)
    rw [longT_succ js ss (by omega)]
    simp [longStep, this]
def longO (js : List I2) (ss : List Int) : Option (List Int) := if earlyC js ss = 0 then some (longT js ss js.length).1 else none
theorem longO_length {js : List I2} {ss zs : List Int} (h : longO js ss = some zs) : zs.length ≤ js.length := by
  unfold longO at h
  split at h
  · injection h with h
    subst h
    rw [(longT_length js ss _ (Nat.le_refl _)).1]; exact Nat.le_refl _
  · cases h
/-- What the two ways do at a basket: all that they ask of the plain state. -/
theorem long_at {js : List I2} {ss : List Int} (h : earlyC js ss = 0) {k : Nat} (hk : k < js.length) :
    ∃ (i w : Nat), (orderL js js.length)[k]'(by rw [orderL_length]; exact hk) = (i : Int) ∧ ∃ (hi : i < js.length) (hw : w < ss.length) (hl : w < (longT js ss k).2.length), bestW ss (longT js ss k).2 js[i].2 ss.length = (w : Int) ∧
      longT js ss (k + 1) = ((longT js ss k).1.set i (w : Int), (longT js ss k).2.set w (w64 ((longT js ss k).2[w] + js[i].1))) := by
  obtain ⟨hjs, hcan⟩ := early_can h
  obtain ⟨i, hi, hil⟩ := orderL_mem js js.length _ (List.getElem_mem (show k < (orderL js js.length).length by rw [orderL_length]; exact hk))
  have hlen := longT_length js ss k (by omega)
  obtain ⟨w', hw', hle⟩ := hcan _ (List.getElem_mem hil)
  have h0 := bestW_some ss (longT js ss k).2 js[i].2 ss.length ⟨w', hw', by simpa [List.getD_eq_getElem?_getD, hw'] using hle⟩
  have h1 := bestW_lt ss (longT js ss k).2 js[i].2 ss.length
  obtain ⟨w, hw⟩ : ∃ w : Nat, bestW ss (longT js ss k).2 js[i].2 ss.length = w := ⟨(bestW ss (longT js ss k).2 js[i].2 ss.length).toNat, by omega⟩
  refine ⟨i, w, hi, hil, by omega, by omega, hw, ?_⟩
  rw [longT_succ js ss hk, hi]
  simp only [longStep, Int.toNat_natCast, jobAt_eq hil, hw]
  rw [show (longT js ss k).2.getD w 0 = (longT js ss k).2[w]'(by omega) by simp [List.getD_eq_getElem?_getD, show w < (longT js ss k).2.length by omega]]
end Go.Proofs.Ytaggfcnaedadaaa
