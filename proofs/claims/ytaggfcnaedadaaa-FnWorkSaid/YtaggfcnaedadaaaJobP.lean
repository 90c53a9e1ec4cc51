/-
  Jobs, part 16: long baskets first gives each basket to one who can make it. Conditions: none.
-/
import Derived.Test.YtaggfcnaedadaaaJobO
set_option linter.unusedSimpArgs false
set_option linter.unusedVariables false
set_option linter.unusedSectionVars false
namespace Go.Proofs.Ytaggfcnaedadaaa
open Go.Abs Go.RowKit

theorem bestW_can (ss loads : List Int) (s : Int) : ∀ k, 0 ≤ bestW ss loads s k → s ≤ ss.getD (bestW ss loads s k).toNat 0
  | 0, h => by simp [bestW] at h
  | k + 1, h => by
    unfold bestW at h ⊢
    split
    · rename_i hc
      simpa using hc.1
    · rename_i hc
      rw [if_neg hc] at h
      exact bestW_can ss loads s k h
theorem orderL_all (js : List I2) : ∀ (n i : Nat), i < n → (i : Int) ∈ orderL js n
  | n + 1, i, h => by
    rw [orderL_succ, insT_mem]
    by_cases hi : i = n
    · subst hi; exact .inl rfl
    · exact .inr (orderL_all js n i (by omega))
def fitsAt (js : List I2) (ss out : List Int) (i : Nat) : Prop := (0 ≤ out.getD i 0 ∧ (out.getD i 0).toNat < ss.length) ∧ (jobAt js i).2 ≤ ss.getD (out.getD i 0).toNat 0
theorem long_fits {js : List I2} {ss : List Int} (h : earlyC js ss = 0) : ∀ k, k ≤ js.length → ∀ i : Nat, (i : Int) ∈ (orderL js js.length).take k → fitsAt js ss (longT js ss k).1 i
  | 0, _, i, hi => by simp at hi
  | k + 1, hk, i, hi => by
    obtain ⟨q, w, hq, hql, hwl, hwl2, hbw, hnext⟩ := long_at h (show k < js.length by omega)
    have hlen := longT_length js ss k (by omega)
    have hcan := bestW_can ss (longT js ss k).2 js[q].2 ss.length (by rw [hbw]; omega)
    rw [hbw, Int.toNat_natCast] at hcan
    rw [hnext]
    unfold fitsAt
    by_cases hiq : i = q
    · subst hiq
      have e : ((longT js ss k).1.set i (w : Int)).getD i 0 = w := by simp [List.getD_eq_getElem?_getD, show i < (longT js ss k).1.length by omega]
      simp only [e, Int.toNat_natCast, jobAt_eq hql]
      exact ⟨⟨by omega, hwl⟩, hcan⟩
    · have e : ((longT js ss k).1.set q (w : Int)).getD i 0 = (longT js ss k).1.getD i 0 := by simp only [List.getD_eq_getElem?_getD]; rw [List.getElem?_set_ne (Ne.symm hiq)]
      simp only [e]
      refine long_fits h k (by omega) i ?_
      rw [List.take_add_one, List.getElem?_eq_getElem (by rw [orderL_length]; omega), hq] at hi
      rcases List.mem_append.1 hi with hi | hi
      · exact hi
      · simp at hi; omega
theorem long_who {js : List I2} {ss : List Int} (h : earlyC js ss = 0) : whoC js ss (longT js ss js.length).1 = 0 := by
  obtain ⟨hjs, _⟩ := early_can h
  have hlen := longT_length js ss js.length (Nat.le_refl _)
  have h2 : ∀ i, i < js.length → fitsAt js ss (longT js ss js.length).1 i := fun i hi => long_fits h js.length (Nat.le_refl _) i (by rw [List.take_of_length_le (by rw [orderL_length]; exact Nat.le_refl _)]; exact orderL_all js _ i hi)
  unfold whoC whoI
  rw [if_pos hjs, if_pos, if_pos]
  · rw [List.all_eq_true]
    intro i hi
    have h4 := (h2 i (by simpa using hi)).2
    show (!decide (ss.getD ((longT js ss js.length).1.getD i 0).toNat 0 < (jobAt js i).2)) = true
    rw [Bool.not_eq_true', decide_eq_false_iff_not]
    omega
  · simp only [Bool.and_eq_true, decide_eq_true_eq, List.all_eq_true, inB]
    refine ⟨fun x hx => ?_, hlen.1⟩
    obtain ⟨i, hi, rfl⟩ := List.getElem_of_mem hx
    have := (h2 i (by omega)).1
    rw [getI hi] at this
    omega
end Go.Proofs.Ytaggfcnaedadaaa
