/-
  Lids, part 11: what told lids are, plain. Conditions: none.
-/
import Derived.Test.YthadhfogmfcacaaLidJ
set_option linter.unusedSimpArgs false
set_option linter.unusedVariables false
set_option linter.unusedSectionVars false
namespace Go.Proofs.Ythadhfogmfcacaa
open Go.Abs Go.RowKit Go.Law

theorem codeL_zero {xs : List I3} {ws : List Int} {s : Int} (h : codeL xs ws s = 0) : lidsB xs = true ∧ ws.length ≤ 12 ∧ ws.all (inB · 1 2000) = true ∧ inB s 0 100 = true := by
  unfold codeL at h
  split at h
  · rename_i h1
    split at h
    · rename_i h2
      simp only [Bool.and_eq_true, decide_eq_true_eq] at h2
      exact ⟨h1, h2.1.1, h2.1.2, h2.2⟩
    · omega
  · omega
theorem codeL_slack {xs : List I3} {ws : List Int} {s t : Int} (h : codeL xs ws s = 0) (ht : 0 ≤ t ∧ t ≤ 100) : codeL xs ws t = 0 := by
  obtain ⟨h1, h2, h3, h4⟩ := codeL_zero h
  have : inB t 0 100 = true := by simp [inB]; omega
  unfold codeL
  rw [if_pos h1, if_pos (by rw [h3, this]; simp [h2])]
theorem slackTo_some {xs : List I3} {ws : List Int} : ∀ {n k : Nat}, slackTo xs ws n = some k → k < n ∧ mostL xs ws k = ws.length ∧ ∀ j, j < k → mostL xs ws j ≠ ws.length
  | 0, k, h => by simp [slackTo] at h
  | n + 1, k, h => by
    unfold slackTo at h
    cases hn : slackTo xs ws n with
    | some j =>
      rw [hn] at h
      injection h with h; subst h
      obtain ⟨h1, h2, h3⟩ := slackTo_some hn
      exact ⟨by omega, h2, h3⟩
    | none =>
      rw [hn] at h
      simp only at h
      split at h
      · rename_i hc
        injection h with h; subst h
        refine ⟨by omega, hc, fun j hj => ?_⟩
        have : ∀ n, slackTo xs ws n = none → ∀ j, j < n → mostL xs ws j ≠ ws.length := by
          intro n
          induction n with
          | zero => intro _ j hj; omega
          | succ n ih =>
            intro h j hj
            unfold slackTo at h
            cases hn2 : slackTo xs ws n with
            | some i => rw [hn2] at h; cases h
            | none =>
              rw [hn2] at h
              simp only at h
              split at h
              · cases h
              · rename_i hc2
                by_cases e : j = n
                · subst e; exact hc2
                · exact ih hn2 j (by omega)
        exact this n hn j hj
      · cases h
theorem least_found {xs : List I3} {ws : List Int} (h : leastSC xs ws = 0) : ∃ k : Nat, leastSI xs ws = k ∧ k ≤ 100 ∧ codeL xs ws 0 = 0 ∧ mostL xs ws k = ws.length ∧ ∀ j, j < k → mostL xs ws j ≠ ws.length := by
  unfold leastSC at h
  split at h
  · rename_i hc
    split at h
    · rename_i k hk
      obtain ⟨h1, h2, h3⟩ := slackTo_some hk
      exact ⟨k, by simp [leastSI, hc, hk], by omega, hc, h2, h3⟩
    · omega
  · rename_i hc; exact absurd h hc
theorem mostL_le (xs : List I3) (ws : List Int) (s : Int) : mostL xs ws s ≤ ws.length := mostK_le_left _ _ _

/-! ### Told lids -/
def usedTo (L : List Int) (i : Nat) : List Int := (L.take i).filter fun x => !decide (x = -1)
theorem usedTo_succ {L : List Int} {i : Nat} (h : i < L.length) : usedTo L (i + 1) = if L[i] = -1 then usedTo L i else usedTo L i ++ [L[i]] := by
  unfold usedTo
  rw [List.take_add_one, List.getElem?_eq_getElem h, List.filter_append]
  by_cases hc : L[i] = -1 <;> simp [hc]
theorem usedTo_le (L : List Int) (i : Nat) : (usedTo L i).length ≤ i := by
  unfold usedTo
  exact Nat.le_trans (List.length_filter_le _ _) (by simp; omega)
section
variable {xs : List I3} {ws : List Int} {s : Int} (hc : codeL xs ws s = 0)
include hc
theorem told_at {i : Nat} (hi : i < ws.length) : ((lidW xs ws s ws.length).1[i]'(by rw [(lidW_length _).1]; exact hi)) = -1 ∨
    ∃ b : Nat, ∃ hb : b < xs.length, ((lidW xs ws s ws.length).1[i]'(by rw [(lidW_length _).1]; exact hi)) = (b : Int) ∧ lidFitsV xs[b] ws[i] s = .tuple #[.bool true, .int .i64 0] ∧
      (b : Int) ∉ usedTo (lidW xs ws s ws.length).1 i ∧ (b : Int) ∉ leftTo xs ws s xs.length := by
  obtain ⟨c1, c2, c3, c4⟩ := codeL_zero hc
  have hlen := (lidW_length (xs := xs) (ws := ws) (sl := s) ws.length).1
  have hil : i < (lidW xs ws s ws.length).1.length := by omega
  obtain ⟨f1, f2⟩ := lidT_fits (F := fitL xs ws s) (n := xs.length) (W := ws.length) (mostL xs ws s) ws.length
  have hfi := f1 i hi
  rw [show lidT (fitL xs ws s) xs.length ws.length (mostL xs ws s) ws.length = lidW xs ws s ws.length from rfl, getI hil] at hfi
  rcases hfi with h | ⟨b, hb, hbn, hF, _⟩
  · exact .inl h
  · refine .inr ⟨b, hbn, hb, ?_, ?_, ?_⟩
    · have hfit : inB (slk xs[b] ws[i]) 0 s = true := by rw [← getD3 hbn, ← getI hi]; exact hF
      have hB : lidB xs[b] = true := by
        simp only [lidsB, Bool.and_eq_true] at c1
        exact List.all_eq_true.1 c1.1 _ (List.getElem_mem hbn)
      have hW : inB ws[i] 1 2000 = true := List.all_eq_true.1 c3 _ (List.getElem_mem hi)
      have hC : lidC xs[b] ws[i] s = 0 := by unfold lidC; rw [if_pos hB, if_pos (by rw [hW, c4]; rfl)]
      unfold lidFitsV
      rw [hC, hfit]; rfl
    · intro hu
      unfold usedTo at hu
      obtain ⟨hm, _⟩ := List.mem_filter.1 hu
      obtain ⟨j, hj, e⟩ := List.getElem_of_mem hm
      simp only [List.length_take] at hj
      rw [List.getElem_take] at e
      have := f2 i j hi (by omega) (by omega)
      rw [show lidT (fitL xs ws s) xs.length ws.length (mostL xs ws s) ws.length = lidW xs ws s ws.length from rfl, getI hil, getI (show j < (lidW xs ws s ws.length).1.length by omega), hb, e] at this
      exact this (by omega) rfl
    · intro hl
      unfold leftTo at hl
      simp only [List.mem_map, List.mem_filter, List.mem_range] at hl
      obtain ⟨c, ⟨_, hcf⟩, e⟩ := hl
      have : c = b := by omega
      subst this
      have : fitsAny (xs.getD c (0, 0, 0)) ws s = true := by
        unfold fitsAny
        rw [List.any_eq_true]
        refine ⟨ws[i], List.getElem_mem hi, ?_⟩
        rw [← getI hi]; exact hF
      rw [this] at hcf; cases hcf
omit hc in
theorem told_all : (usedTo (lidW xs ws s ws.length).1 ws.length).length = mostL xs ws s := by
  have hlen := (lidW_length (xs := xs) (ws := ws) (sl := s) ws.length).1
  have hn := lidT_need (F := fitL xs ws s) (n := xs.length) (W := ws.length) ws.length (Nat.le_refl _)
  have h0 : restK (fitL xs ws s) xs.length ws.length (List.replicate xs.length false) 0 = mostL xs ws s := rest_zero
  rw [h0] at hn
  have hz : ∀ g, restK (fitL xs ws s) xs.length ws.length g ws.length = 0 := fun g => by
    have := mostK_le_left (fun a b => !g.getD b false && fitL xs ws s (ws.length + a) b) xs.length (ws.length - ws.length)
    unfold restK; omega
  rw [hz] at hn
  have hu : (usedTo (lidW xs ws s ws.length).1 ws.length).length = hasN (lidW xs ws s ws.length).1 := by
    unfold usedTo hasN
    rw [List.take_of_length_le (by omega), ← List.countP_eq_length_filter]
    refine List.countP_congr fun x hx => ?_
    obtain ⟨i, hi, rfl⟩ := List.getElem_of_mem hx
    obtain ⟨f1, _⟩ := lidT_fits (F := fitL xs ws s) (n := xs.length) (W := ws.length) (mostL xs ws s) ws.length
    have hfi := f1 i (by omega)
    rw [show lidT (fitL xs ws s) xs.length ws.length (mostL xs ws s) ws.length = lidW xs ws s ws.length from rfl, getI hi] at hfi
    simp only [Bool.not_eq_true', decide_eq_false_iff_not, decide_eq_true_eq]
    rcases hfi with h | ⟨b, hb, _⟩ <;> omega
  rw [hu]
  have : (hasN (lidW xs ws s ws.length).1 : Int) + 0 = mostL xs ws s := by simpa [lidW] using hn
  omega
end
/-- A slice that may be nil, as one reads it. -/
def optA (l : Nat) : Option (List Int) → Option Addr
  | none => none
  | some _ => some ⟨l, 0, none⟩
theorem optV_eq (l : Nat) (o : Option (List Int)) : optV l o = .slice (optA l o) (o.getD []).length (o.getD []).length := by cases o <;> rfl
theorem optRd (m : Mem) (e : TypeId) (o : Option (List Int)) : RdI (m ++ optM e o) (optA m.length o) (o.getD []) := by
  cases o with
  | none => exact RdI.nil _ _
  | some ys => exact RdI.of_get (o := ⟨ys.map (Value.int .i64), e, 1, 2⟩) (by simp [optM]) (by simp) rfl rfl
theorem rdPre {m m' : Mem} {a : Option Addr} {xs : List Int} (h : RdI m a xs) (hp : m <+: m') : RdI m' a xs := by obtain ⟨l, rfl⟩ := hp; exact h.ext l
end Go.Proofs.Ythadhfogmfcacaa
