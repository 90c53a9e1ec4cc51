/-
  Lids, part 23: the tightest lid, plain. Conditions: none.
-/
import Derived.Test.YthadhfogmfcacaaDoorLidV
set_option linter.unusedSimpArgs false
set_option linter.unusedVariables false
set_option linter.unusedSectionVars false
namespace Go.Proofs.YthadhfogmfcacaaDoor
open Go.Abs Go.RowKit

theorem tightTo_spec (xs : List I3) (w s : Int) : ∀ k, k ≤ xs.length → (tightTo xs w s k = -1 ∧ ∀ i (h : i < xs.length), i < k → inB (slk xs[i] w) 0 s = false) ∨
    ∃ b, ∃ h : b < xs.length, tightTo xs w s k = (b : Int) ∧ inB (slk xs[b] w) 0 s = true ∧ ∀ i (h' : i < xs.length), i < k → inB (slk xs[i] w) 0 s = true → slk xs[b] w ≤ slk xs[i] w
  | 0, _ => .inl ⟨rfl, fun i _ h => by omega⟩
  | k + 1, hk => by
    have hkl : k < xs.length := by omega
    have ih := tightTo_spec xs w s k (by omega)
    simp only [tightTo, getD3 hkl]
    by_cases hf : inB (slk xs[k] w) 0 s = true
    · rcases ih with ⟨h1, h2⟩ | ⟨b, hb, h1, h2, h3⟩
      · rw [if_pos (by simp [hf, h1])]
        exact .inr ⟨k, hkl, rfl, hf, fun i h' hi hfi => by
          by_cases e : i = k
          · subst e; exact Int.le_refl _
          · have := h2 i h' (by omega); rw [this] at hfi; cases hfi⟩
      · have hbt : ((b : Int)).toNat = b := by omega
        rw [h1, hbt, getD3 hb]
        by_cases hlt : slk xs[k] w < slk xs[b] w
        · rw [if_pos (by simp [hf, hlt])]
          exact .inr ⟨k, hkl, rfl, hf, fun i h' hi hfi => by
            by_cases e : i = k
            · subst e; exact Int.le_refl _
            · have := h3 i h' (by omega) hfi; omega⟩
        · rw [if_neg (by simp [hlt])]
          exact .inr ⟨b, hb, rfl, h2, fun i h' hi hfi => by
            by_cases e : i = k
            · subst e; omega
            · exact h3 i h' (by omega) hfi⟩
    · have hf' : inB (slk xs[k] w) 0 s = false := by simpa using hf
      rw [if_neg (by simp [hf'])]
      rcases ih with ⟨h1, h2⟩ | ⟨b, hb, h1, h2, h3⟩
      · exact .inl ⟨h1, fun i h' hi => by
          by_cases e : i = k
          · subst e; exact hf'
          · exact h2 i h' (by omega)⟩
      · exact .inr ⟨b, hb, h1, h2, fun i h' hi hfi => by
          by_cases e : i = k
          · subst e; rw [hf'] at hfi; cases hfi
          · exact h3 i h' (by omega) hfi⟩
theorem tight_spec {xs : List I3} {w s : Int} (h : tightC xs w s = 0) : ∃ b, ∃ hb : b < xs.length, tightI xs w s = (b : Int) ∧ slackC xs[b] w = 0 ∧ slk xs[b] w ≤ s ∧ ∀ i (h' : i < xs.length), slackC xs[i] w = 0 → slk xs[b] w ≤ slk xs[i] w := by
  unfold tightC at h
  split at h
  · rename_i hv
    split at h
    · rename_i hws
      split at h
      · omega
      · rename_i hn
        simp only [Bool.and_eq_true] at hws
        rcases tightTo_spec xs w s xs.length (Nat.le_refl _) with ⟨h1, _⟩ | ⟨b, hb, h1, h2, h3⟩
        · exact absurd (show tightI xs w s < 0 by unfold tightI; omega) hn
        · have hlb : lidB xs[b] = true := by
            simp only [lidsB, Bool.and_eq_true] at hv
            have hv' : xs.all lidB = true := by first | exact hv.1 | exact hv.2
            exact List.all_eq_true.1 hv' _ (List.getElem_mem hb)
          have h2' : 0 ≤ slk xs[b] w ∧ slk xs[b] w ≤ s := by simpa [inB] using h2
          refine ⟨b, hb, h1, ?_, h2'.2, fun i h' hi => ?_⟩
          · simp [slackC, hlb, hws.1]; omega
          · have hi0 : 0 ≤ slk xs[i] w := by
              unfold slackC at hi
              split at hi
              · split at hi
                · split at hi
                  · omega
                  · omega
                · omega
              · omega
            by_cases hs : slk xs[i] w ≤ s
            · exact h3 i h' h' (by simp [inB, hi0, hs])
            · omega
    · omega
  · omega
theorem slack_fits {p : I3} {w : Int} (h : slackC p w = 0) (h1 : slk p w ≤ 100) : lidFitsV p w (slk p w) = .tuple #[.bool true, .int .i64 0] ∧ (0 < slk p w → lidFitsV p w (slk p w - 1) = .tuple #[.bool false, .int .i64 0]) ∧ 0 ≤ slk p w := by
  unfold slackC at h
  split at h
  · rename_i hv
    split at h
    · rename_i hw
      split at h
      · omega
      · rename_i hn
        have e1 : inB (slk p w) 0 100 = true := by simp [inB]; omega
        have e2 : inB (slk p w) 0 (slk p w) = true := by simp [inB]; omega
        refine ⟨by simp [lidFitsV, lidC, hv, hw, e1, e2], fun h0 => ?_, by omega⟩
        have e3 : inB (slk p w - 1) 0 100 = true := by simp [inB]; omega
        have e4 : inB (slk p w) 0 (slk p w - 1) = false := by simp [inB]; omega
        simp [lidFitsV, lidC, hv, hw, e3, e4]
    · omega
  · omega
theorem slk_in (p : I3) (w : Int) : in64 (slk p w) := by
  unfold slk in64
  rw [IntKind.wrap_i64]
  omega
end Go.Proofs.YthadhfogmfcacaaDoor
