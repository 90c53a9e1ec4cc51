/-
  Jobs, part 15: ways to give out the baskets, and who makes them. Conditions: none.
-/
import Derived.Test.YtaggfcnaedadaaaJobN
import Derived.Test.YtaggfcnaedadaaaJobJ
import Derived.Test.YtaggfcnaedadaaaJobC
set_option linter.unusedSimpArgs false
set_option linter.unusedVariables false
set_option linter.unusedSectionVars false
namespace Go.Proofs.Ytaggfcnaedadaaa
open Go.Abs Go.RowKit

theorem maxTo_set {L : List Int} {w : Nat} {v : Int} (hw : w < L.length) (h : L[w] ≤ v) : maxTo (L.set w v) 0 = max (maxTo L 0) v := by
  have e : ∀ c, maxTo (L.set w v) 0 ≤ c ↔ max (maxTo L 0) v ≤ c := fun c => by
    rw [maxTo_le, Int.max_le, maxTo_le]
    constructor
    · rintro ⟨h1, h2⟩
      have hv := h2 v (List.mem_iff_getElem.2 ⟨w, by simpa using hw, by simp⟩)
      refine ⟨⟨h1, fun x hx => ?_⟩, hv⟩
      obtain ⟨i, hi, rfl⟩ := List.getElem_of_mem hx
      by_cases hiw : i = w
      · subst hiw; omega
      · exact h2 _ (List.mem_iff_getElem.2 ⟨i, by simpa using hi, by rw [List.getElem_set_ne (Ne.symm hiw)]⟩)
    · rintro ⟨⟨h1, h2⟩, h3⟩
      refine ⟨h1, fun x hx => ?_⟩
      rcases List.mem_or_eq_of_mem_set hx with hx | hx
      · exact h2 x hx
      · omega
  have h1 := (e _).1 (Int.le_refl _)
  have h2 := (e _).2 (Int.le_refl _)
  omega
/-- Who makes the baskets is a way to its own end. -/
theorem endT_of_who {js : List I2} {ss who : List Int} (h : whoC js ss who = 0) : ∀ (d k : Nat), js.length - k = d → k ≤ js.length →
    endT ss (js.drop k) (loadsTo js ss.length who k) (maxTo (loadsTo js ss.length who k) 0) (who.drop k) = some (endI js ss who) := by
  obtain ⟨hjs, hall, hlen⟩ := whoC_zero h
  obtain ⟨hjo, hso, hj7, hs1, hs4⟩ := jobsB_parts hjs
  have hcl : ∀ i, i < js.length → clashAt js ss who i = true := by
    unfold whoC whoI at h
    rw [if_pos hjs, if_pos (by simp [hall, hlen])] at h
    split at h
    · rename_i hc
      intro i hi
      exact List.all_eq_true.1 hc i (by simpa using hi)
    · omega
  intro d
  induction d with
  | zero =>
    intro k hd hk
    obtain rfl : k = js.length := by omega
    rw [List.drop_length, List.drop_eq_nil_of_le (by omega)]
    rfl
  | succ d ih =>
    intro k hd hk
    have hkl : k < js.length := by omega
    have hkw : k < who.length := by omega
    obtain ⟨hx, hxl⟩ := who_ix hall hkw
    have hc := hcl k hkl
    simp only [clashAt, Bool.not_eq_true', decide_eq_false_iff_not, jobAt_eq hkl] at hc
    rw [List.drop_eq_getElem_cons hkl, List.drop_eq_getElem_cons hkw, endT, hx, Int.toNat_natCast, if_pos ⟨⟨by omega, hxl⟩, by omega⟩]
    have hll := loadsTo_length js ss.length who k
    have hb := loadsTo_bound hjo ss.length who k hk (by omega) _ (List.getElem_mem (show ixAt who k < (loadsTo js ss.length who k).length by omega))
    have hj := List.all_eq_true.1 hjo _ (List.getElem_mem hkl)
    simp only [jobB, Bool.and_eq_true, inB, decide_eq_true_eq] at hj
    have hg : (loadsTo js ss.length who k).getD (ixAt who k) 0 = (loadsTo js ss.length who k)[ixAt who k]'(by omega) := by simp [List.getD_eq_getElem?_getD, show ixAt who k < (loadsTo js ss.length who k).length by omega]
    have hw : w64 ((loadsTo js ss.length who k)[ixAt who k]'(by omega) + js[k].1) = (loadsTo js ss.length who k)[ixAt who k]'(by omega) + js[k].1 := wrapI (by omega) (by omega)
    have hs := ih (k + 1) (by omega) (by omega)
    have hm := maxTo_set (L := loadsTo js ss.length who k) (w := ixAt who k) (v := w64 ((loadsTo js ss.length who k).getD (ixAt who k) 0 + js[k].1)) (by omega) (by rw [hg, hw]; omega)
    rw [loadsTo, jobAt_eq hkl, hm] at hs
    exact hs
theorem endT_valid (ss : List Int) : ∀ (js : List I2) (loads : List Int) (en : Int) (xs : List Int) (e : Int), endT ss js loads en xs = some e →
    xs.length = js.length ∧ ∀ i, i < js.length → (0 ≤ xs.getD i 0 ∧ (xs.getD i 0).toNat < ss.length) ∧ (jobAt js i).2 ≤ ss.getD (xs.getD i 0).toNat 0
  | [], loads, en, [], e, _ => ⟨rfl, fun i hi => by simp at hi⟩
  | j :: js, loads, en, x :: xs, e, h => by
    unfold endT at h
    split at h
    · rename_i hok
      obtain ⟨h1, h2⟩ := endT_valid ss js _ _ xs e h
      refine ⟨by simp [h1], fun i hi => ?_⟩
      cases i with
      | zero => simpa [jobAt] using hok
      | succ i => simpa [jobAt] using h2 i (by simpa using hi)
    · cases h
  | [], _, _, _ :: _, _, h => by simp [endT] at h
  | _ :: _, _, _, [], _, h => by simp [endT] at h
theorem who_of_endT {js : List I2} {ss : List Int} (hjs : jobsB js ss = true) {loads : List Int} {en : Int} {xs : List Int} {e : Int} (h : endT ss js loads en xs = some e) : whoC js ss xs = 0 := by
  obtain ⟨h1, h2⟩ := endT_valid ss js loads en xs e h
  unfold whoC whoI
  rw [if_pos hjs, if_pos, if_pos]
  · rw [List.all_eq_true]
    intro i hi
    have := h2 i (by simpa using hi)
    show (!decide (ss.getD (xs.getD i 0).toNat 0 < (jobAt js i).2)) = true
    rw [Bool.not_eq_true', decide_eq_false_iff_not]
    have h4 := this.2
    omega
  · simp only [Bool.and_eq_true, decide_eq_true_eq, List.all_eq_true, inB]
    refine ⟨fun x hx => ?_, h1⟩
    obtain ⟨i, hi, rfl⟩ := List.getElem_of_mem hx
    have := (h2 i (by omega)).1
    rw [getI hi] at this
    omega
/-- The told end is the end of the told choice, and none is earlier. -/
theorem early_end {js : List I2} {ss : List Int} (h : earlyC js ss = 0) : whoC js ss (earlyT js ss).1 = 0 ∧ (earlyT js ss).2 = endI js ss (earlyT js ss).1 := by
  obtain ⟨hjs, _⟩ := early_can h
  have hf := early_found h
  rcases giveT_way ss js [] (List.replicate ss.length 0) 0 ([], -1) with h1 | ⟨xs, h1, h2⟩
  · exfalso
    have : (earlyT js ss).2 = -1 := by unfold earlyT; rw [h1]
    omega
  · have e1 : (earlyT js ss).1 = xs := by unfold earlyT; rw [h1]; simp
    have hw := who_of_endT hjs h2
    have h3 := endT_of_who hw js.length 0 (by simp) (by omega)
    have h0 : maxTo (loadsTo js ss.length xs 0) 0 = 0 := by
      have hle : maxTo (loadsTo js ss.length xs 0) 0 ≤ 0 := (maxTo_le _ _ _).2 ⟨Int.le_refl _, fun x hx => by simp [loadsTo] at hx; omega⟩
      have := ((maxTo_le (loadsTo js ss.length xs 0) 0 _).1 (Int.le_refl _)).1
      omega
    rw [h0, List.drop_zero, List.drop_zero, show loadsTo js ss.length xs 0 = List.replicate ss.length 0 from rfl, h2] at h3
    injection h3 with h3
    rw [e1]
    exact ⟨hw, h3⟩
theorem early_least {js : List I2} {ss who : List Int} (hw : whoC js ss who = 0) : (earlyT js ss).2 ≤ endI js ss who := by
  have h3 := endT_of_who hw js.length 0 (by simp) (by omega)
  have h0 : maxTo (loadsTo js ss.length who 0) 0 = 0 := by
    have hle : maxTo (loadsTo js ss.length who 0) 0 ≤ 0 := (maxTo_le _ _ _).2 ⟨Int.le_refl _, fun x hx => by simp [loadsTo] at hx; omega⟩
    have := ((maxTo_le (loadsTo js ss.length who 0) 0 _).1 (Int.le_refl _)).1
    omega
  rw [h0, List.drop_zero, List.drop_zero] at h3
  exact (giveT_least ss _ js [] _ 0 ([], -1) who (by omega) h3).2
end Go.Proofs.Ytaggfcnaedadaaa
