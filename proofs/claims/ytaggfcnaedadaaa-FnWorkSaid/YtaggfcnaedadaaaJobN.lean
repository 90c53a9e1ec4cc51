/-
  Jobs, part 14: the search for the earliest end, plain. Conditions: none.
-/
import Derived.Test.YtaggfcnaedadaaaJobM
set_option linter.unusedSimpArgs false
set_option linter.unusedVariables false
set_option linter.unusedSectionVars false
namespace Go.Proofs.Ytaggfcnaedadaaa
open Go.Abs Go.RowKit

/-- The end of a way to give out the baskets that are left. -/
def endT (ss : List Int) : List I2 → List Int → Int → List Int → Option Int
  | [], _, en, [] => some en
  | j :: js, loads, en, x :: xs => if (0 ≤ x ∧ x.toNat < ss.length) ∧ j.2 ≤ ss.getD x.toNat 0 then endT ss js (loads.set x.toNat (w64 (loads.getD x.toNat 0 + j.1))) (max en (w64 (loads.getD x.toNat 0 + j.1))) xs else none
  | _, _, _, _ => none
theorem endT_ge (ss : List Int) : ∀ (js : List I2) (loads : List Int) (en : Int) (xs : List Int) (e : Int), endT ss js loads en xs = some e → en ≤ e
  | [], _, en, [], e, h => by simp [endT] at h; omega
  | j :: js, loads, en, x :: xs, e, h => by
    unfold endT at h
    split at h
    · have := endT_ge ss js _ _ xs e h; omega
    · cases h
  | [], _, _, _ :: _, _, h => by simp [endT] at h
  | _ :: _, _, _, [], _, h => by simp [endT] at h
/-- What is found stays as good. -/
theorem giveT_keep (ss : List Int) (e : Int) : ∀ (js : List I2) (who loads : List Int) (en : Int) (st : List Int × Int), 0 ≤ en → 0 ≤ st.2 ∧ st.2 ≤ e → 0 ≤ (giveT ss js who loads en st).2 ∧ (giveT ss js who loads en st).2 ≤ e
  | [], who, loads, en, st, he, hs => by
    by_cases h : 0 ≤ st.2 ∧ st.2 ≤ en
    · rw [giveT_cut h]; exact hs
    · rw [giveT_nil h]; simp only; omega
  | j :: js, who, loads, en, st, he, hs => by
    by_cases h : 0 ≤ st.2 ∧ st.2 ≤ en
    · rw [giveT_cut h]; exact hs
    · rw [giveT, if_neg h]
      have keep : ∀ (ws : List Nat) (st : List Int × Int), 0 ≤ st.2 ∧ st.2 ≤ e → 0 ≤ (ws.foldl (fun (st : List Int × Int) (w : Nat) => if j.2 ≤ ss.getD w 0 then giveT ss js (who ++ [(w : Int)]) (loads.set w (w64 (loads.getD w 0 + j.1))) (max en (w64 (loads.getD w 0 + j.1))) st else st) st).2 ∧ (ws.foldl (fun (st : List Int × Int) (w : Nat) => if j.2 ≤ ss.getD w 0 then giveT ss js (who ++ [(w : Int)]) (loads.set w (w64 (loads.getD w 0 + j.1))) (max en (w64 (loads.getD w 0 + j.1))) st else st) st).2 ≤ e := by
        intro ws
        induction ws with
        | nil => intro st h; exact h
        | cons w ws ih =>
          intro st h
          rw [List.foldl_cons]
          refine ih _ ?_
          split
          · exact giveT_keep ss e js _ _ _ _ (by omega) h
          · exact h
      exact keep _ _ hs
/-- No way ends earlier. -/
theorem giveT_least (ss : List Int) (e : Int) : ∀ (js : List I2) (who loads : List Int) (en : Int) (st : List Int × Int) (xs : List Int), 0 ≤ en → endT ss js loads en xs = some e → 0 ≤ (giveT ss js who loads en st).2 ∧ (giveT ss js who loads en st).2 ≤ e
  | [], who, loads, en, st, [], he, hx => by
    simp [endT] at hx
    by_cases h : 0 ≤ st.2 ∧ st.2 ≤ en
    · rw [giveT_cut h]; omega
    · rw [giveT_nil h]; simp only; omega
  | j :: js, who, loads, en, st, x :: xs, he, hx => by
    have hge := endT_ge ss _ _ _ _ _ hx
    by_cases h : 0 ≤ st.2 ∧ st.2 ≤ en
    · rw [giveT_cut h]; omega
    · rw [giveT, if_neg h]
      unfold endT at hx
      split at hx
      · rename_i hok
        have go : ∀ (ws : List Nat) (st : List Int × Int), x.toNat ∈ ws → 0 ≤ (ws.foldl (fun (st : List Int × Int) (w : Nat) => if j.2 ≤ ss.getD w 0 then giveT ss js (who ++ [(w : Int)]) (loads.set w (w64 (loads.getD w 0 + j.1))) (max en (w64 (loads.getD w 0 + j.1))) st else st) st).2 ∧ (ws.foldl (fun (st : List Int × Int) (w : Nat) => if j.2 ≤ ss.getD w 0 then giveT ss js (who ++ [(w : Int)]) (loads.set w (w64 (loads.getD w 0 + j.1))) (max en (w64 (loads.getD w 0 + j.1))) st else st) st).2 ≤ e := by
          intro ws
          induction ws with
          | nil => intro st h; simp at h
          | cons w ws ih =>
            intro st hm
            rw [List.foldl_cons]
            by_cases hw : w = x.toNat
            · subst hw
              rw [if_pos hok.2]
              have h1 := giveT_least ss e js (who ++ [(x.toNat : Int)]) _ _ st xs (by omega) hx
              have keep : ∀ (ws : List Nat) (st : List Int × Int), 0 ≤ st.2 ∧ st.2 ≤ e → 0 ≤ (ws.foldl (fun (st : List Int × Int) (w : Nat) => if j.2 ≤ ss.getD w 0 then giveT ss js (who ++ [(w : Int)]) (loads.set w (w64 (loads.getD w 0 + j.1))) (max en (w64 (loads.getD w 0 + j.1))) st else st) st).2 ∧ (ws.foldl (fun (st : List Int × Int) (w : Nat) => if j.2 ≤ ss.getD w 0 then giveT ss js (who ++ [(w : Int)]) (loads.set w (w64 (loads.getD w 0 + j.1))) (max en (w64 (loads.getD w 0 + j.1))) st else st) st).2 ≤ e := by
                intro ws
                induction ws with
                | nil => intro st h; exact h
                | cons w ws ih =>
                  intro st h
                  rw [List.foldl_cons]
                  refine ih _ ?_
                  split
                  · exact giveT_keep ss e js _ _ _ _ (by omega) h
                  · exact h
              exact keep _ _ h1
            · refine ih _ ?_
              rcases List.mem_cons.1 hm with h | h
              · exact absurd h.symm hw
              · exact h
        exact go _ _ (by simpa using hok.1.2)
      · cases hx
  | [], _, _, _, _, _ :: _, _, h => by simp [endT] at h
  | _ :: _, _, _, _, _, [], _, h => by simp [endT] at h
/-- What is found is a way. -/
theorem giveT_way (ss : List Int) : ∀ (js : List I2) (who loads : List Int) (en : Int) (st : List Int × Int), giveT ss js who loads en st = st ∨ ∃ xs, (giveT ss js who loads en st).1 = who ++ xs ∧ endT ss js loads en xs = some (giveT ss js who loads en st).2
  | [], who, loads, en, st => by
    by_cases h : 0 ≤ st.2 ∧ st.2 ≤ en
    · rw [giveT_cut h]; exact .inl rfl
    · rw [giveT_nil h]; exact .inr ⟨[], by simp, by simp [endT]⟩
  | j :: js, who, loads, en, st => by
    by_cases h : 0 ≤ st.2 ∧ st.2 ≤ en
    · rw [giveT_cut h]; exact .inl rfl
    · rw [giveT, if_neg h]
      have go : ∀ (ws : List Nat) (st : List Int × Int), (∀ w ∈ ws, w < ss.length) → (ws.foldl (fun (st : List Int × Int) (w : Nat) => if j.2 ≤ ss.getD w 0 then giveT ss js (who ++ [(w : Int)]) (loads.set w (w64 (loads.getD w 0 + j.1))) (max en (w64 (loads.getD w 0 + j.1))) st else st) st) = st ∨
          ∃ xs, (ws.foldl (fun (st : List Int × Int) (w : Nat) => if j.2 ≤ ss.getD w 0 then giveT ss js (who ++ [(w : Int)]) (loads.set w (w64 (loads.getD w 0 + j.1))) (max en (w64 (loads.getD w 0 + j.1))) st else st) st).1 = who ++ xs ∧ endT ss (j :: js) loads en xs = some (ws.foldl (fun (st : List Int × Int) (w : Nat) => if j.2 ≤ ss.getD w 0 then giveT ss js (who ++ [(w : Int)]) (loads.set w (w64 (loads.getD w 0 + j.1))) (max en (w64 (loads.getD w 0 + j.1))) st else st) st).2 := by
        intro ws
        induction ws with
        | nil => intro st _; exact .inl rfl
        | cons w ws ih =>
          intro st hw
          rw [List.foldl_cons]
          have hwl := hw w (by simp)
          rcases ih (if j.2 ≤ ss.getD w 0 then giveT ss js (who ++ [(w : Int)]) (loads.set w (w64 (loads.getD w 0 + j.1))) (max en (w64 (loads.getD w 0 + j.1))) st else st) (fun v hv => hw v (by simp [hv])) with h1 | h1
          · rw [h1]
            by_cases hc : j.2 ≤ ss.getD w 0
            · rw [if_pos hc]
              rcases giveT_way ss js (who ++ [(w : Int)]) (loads.set w (w64 (loads.getD w 0 + j.1))) (max en (w64 (loads.getD w 0 + j.1))) st with h2 | ⟨xs, h2, h3⟩
              · exact .inl h2
              · refine .inr ⟨(w : Int) :: xs, by rw [h2]; simp, ?_⟩
                rw [endT, if_pos ⟨⟨by omega, by simpa using hwl⟩, by simpa using hc⟩]
                simpa using h3
            · rw [if_neg hc]; exact .inl rfl
          · exact .inr h1
      exact go _ _ (fun w hw => by simpa using hw)
end Go.Proofs.Ytaggfcnaedadaaa
