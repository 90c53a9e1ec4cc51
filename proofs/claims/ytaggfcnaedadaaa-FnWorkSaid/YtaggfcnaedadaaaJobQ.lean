/-
  Jobs, part 17: the hours of the workers, plain. Conditions: none.
-/
import Derived.Test.YtaggfcnaedadaaaJobP
set_option linter.unusedSimpArgs false
set_option linter.unusedVariables false
set_option linter.unusedSectionVars false
namespace Go.Proofs.Ytaggfcnaedadaaa
open Go.Abs Go.RowKit

/-- The hours that a worker has of the first baskets. -/
def hoursTo (js : List I2) (who : List Int) (k : Nat) : Nat → Int
  | 0 => 0
  | i + 1 => if who.getD i 0 = (k : Int) then hoursTo js who k i + (jobAt js i).1 else hoursTo js who k i
def allHours (js : List I2) : Nat → Int
  | 0 => 0
  | i + 1 => allHours js i + (jobAt js i).1
def topHours (js : List I2) : Nat → Int
  | 0 => 0
  | i + 1 => max (topHours js i) (jobAt js i).1
def sumI : List Int → Int
  | [] => 0
  | x :: xs => x + sumI xs
theorem sumI_set : ∀ (L : List Int) (w : Nat) (h : Int) (hw : w < L.length), sumI (L.set w (L[w] + h)) = sumI L + h
  | x :: xs, 0, h, _ => by simp [sumI]; omega
  | x :: xs, w + 1, h, hw => by
    have := sumI_set xs w h (by simpa using hw)
    simp only [List.set_cons_succ, sumI, List.getElem_cons_succ, this]; omega
theorem sumI_le : ∀ (L : List Int) (M : Int), (∀ x ∈ L, x ≤ M) → sumI L ≤ M * L.length
  | [], M, _ => by simp [sumI]
  | x :: xs, M, h => by
    have h1 := sumI_le xs M (fun y hy => h y (by simp [hy]))
    have h2 := h x (by simp)
    simp only [sumI, List.length_cons, Int.natCast_add, Int.mul_add]
    omega
theorem sumI_rep : ∀ n : Nat, sumI (List.replicate n 0) = 0
  | 0 => rfl
  | n + 1 => by simp [List.replicate_succ, sumI, sumI_rep n]
theorem sumW_go : ∀ (L : List Int) (s : Int), 0 ≤ s → (∀ x ∈ L, 0 ≤ x ∧ x ≤ 700) → s + 700 * L.length ≤ 1000000 → L.foldl (fun s x => w64 (s + x)) s = s + sumI L
  | [], s, _, _, _ => by simp [sumI]
  | x :: xs, s, h1, h4, h5 => by
    have hx := h4 x (by simp)
    simp only [List.length_cons, Int.natCast_add] at h5
    have hw : w64 (s + x) = s + x := wrapI (by omega) (by omega)
    rw [List.foldl_cons, hw, sumW_go xs (s + x) (by omega) (fun y hy => h4 y (by simp [hy])) (by omega)]
    simp only [sumI]; omega
theorem jobB_parts {js : List I2} {i : Nat} (h : js.all jobB = true) (hi : i < js.length) : 1 ≤ (jobAt js i).1 ∧ (jobAt js i).1 ≤ 100 := by
  have hj := List.all_eq_true.1 h _ (List.getElem_mem hi)
  simp only [jobB, Bool.and_eq_true, inB, decide_eq_true_eq] at hj
  rw [jobAt_eq hi]; omega
theorem allHours_bound {js : List I2} (h : js.all jobB = true) : ∀ i, i ≤ js.length → 0 ≤ allHours js i ∧ allHours js i ≤ 100 * i
  | 0, _ => by simp [allHours]
  | i + 1, hi => by
    have := allHours_bound h i (by omega)
    have := jobB_parts h (show i < js.length by omega)
    simp only [allHours]; omega
theorem hoursTo_bound {js : List I2} (h : js.all jobB = true) (who : List Int) (k : Nat) : ∀ i, i ≤ js.length → 0 ≤ hoursTo js who k i ∧ hoursTo js who k i ≤ 100 * i
  | 0, _ => by simp [hoursTo]
  | i + 1, hi => by
    have := hoursTo_bound h who k i (by omega)
    have := jobB_parts h (show i < js.length by omega)
    simp only [hoursTo]; split <;> omega
theorem topHours_bound {js : List I2} (h : js.all jobB = true) : ∀ i, i ≤ js.length → 0 ≤ topHours js i ∧ topHours js i ≤ 100
  | 0, _ => by simp [topHours]
  | i + 1, hi => by
    have := topHours_bound h i (by omega)
    have := jobB_parts h (show i < js.length by omega)
    simp only [topHours]; omega
section
variable {js : List I2} {ss who : List Int} (h : whoC js ss who = 0)
include h
/-- The load of a worker is the hours of its baskets; all loads are the hours of all baskets. -/
theorem loads_at : ∀ i, i ≤ js.length → (∀ k, k < ss.length → (loadsTo js ss.length who i).getD k 0 = hoursTo js who k i) ∧ sumI (loadsTo js ss.length who i) = allHours js i
  | 0, _ => by
    refine ⟨fun k hk => ?_, ?_⟩
    · simp [loadsTo, hoursTo, List.getD_eq_getElem?_getD, hk]
    · simp [loadsTo, allHours, sumI_rep]
  | i + 1, hi => by
    obtain ⟨h1, h2⟩ := loads_at i (by omega)
    obtain ⟨hjs, hall, hlen⟩ := whoC_zero h
    obtain ⟨hjo, hso, hj7, hs1, hs4⟩ := jobsB_parts hjs
    have hil : i < who.length := by omega
    obtain ⟨hx, hxl⟩ := who_ix hall hil
    have hll := loadsTo_length js ss.length who i
    have hxl' : ixAt who i < (loadsTo js ss.length who i).length := by omega
    have hb := loadsTo_bound hjo ss.length who i (by omega) (by omega) _ (List.getElem_mem hxl')
    have hj := jobB_parts hjo (show i < js.length by omega)
    have hg : (loadsTo js ss.length who i).getD (ixAt who i) 0 = (loadsTo js ss.length who i)[ixAt who i] := by simp [List.getD_eq_getElem?_getD, hxl']
    have hw : w64 ((loadsTo js ss.length who i)[ixAt who i] + (jobAt js i).1) = (loadsTo js ss.length who i)[ixAt who i] + (jobAt js i).1 := wrapI (by omega) (by omega)
    refine ⟨fun k hk => ?_, ?_⟩
    · rw [loadsTo, hoursTo, hg, hw, getI hil, hx]
      have hk1 := h1 k hk
      by_cases he : k = ixAt who i
      · subst he
        rw [if_pos rfl, ← hk1, hg]
        simp [List.getD_eq_getElem?_getD, hxl']
      · rw [if_neg (by omega), ← hk1]
        simp only [List.getD_eq_getElem?_getD]
        rw [List.getElem?_set_ne (Ne.symm he)]
    · rw [loadsTo, hg, hw, sumI_set, h2]; rfl
theorem loads_hours {k : Nat} (hk : k < ss.length) : (loadsL js ss who)[k]'(by rw [loadsL_length]; exact hk) = hoursTo js who k js.length := by
  have := (loads_at h js.length (Nat.le_refl _)).1 k hk
  rw [← this]
  simp [loadsL, List.getD_eq_getElem?_getD, loadsTo_length, hk]
theorem end_bound : (0 ≤ endI js ss who ∧ endI js ss who ≤ 700) ∧ ∀ k, k < ss.length → hoursTo js who k js.length ≤ endI js ss who := by
  obtain ⟨hjs, hall, hlen⟩ := whoC_zero h
  have hn := loadsL_nonneg (who := who) hjs
  have h1 := (maxTo_le (loadsL js ss who) 0 (endI js ss who)).1 (Int.le_refl _)
  refine ⟨⟨h1.1, (maxTo_le _ _ _).2 ⟨by omega, fun x hx => (hn x hx).2⟩⟩, fun k hk => ?_⟩
  rw [← loads_hours h hk]
  exact h1.2 _ (List.getElem_mem _)
theorem end_shared : allHours js js.length ≤ endI js ss who * ss.length ∧ idleI js ss who = endI js ss who * ss.length - allHours js js.length := by
  obtain ⟨hjs, hall, hlen⟩ := whoC_zero h
  obtain ⟨hjo, hso, hj7, hs1, hs4⟩ := jobsB_parts hjs
  have hn := loadsL_nonneg (who := who) hjs
  have h1 := (maxTo_le (loadsL js ss who) 0 (endI js ss who)).1 (Int.le_refl _)
  have h2 := sumI_le (loadsL js ss who) (endI js ss who) h1.2
  have h3 : sumI (loadsL js ss who) = allHours js js.length := (loads_at h js.length (Nat.le_refl _)).2
  rw [h3, loadsL_length] at h2
  have hl := loadsL_length js ss who
  have h4 : sumW (loadsL js ss who) = allHours js js.length := by
    have := sumW_go (loadsL js ss who) 0 (by omega) hn (by rw [hl]; omega)
    rw [h3] at this
    unfold sumW; rw [this]; omega
  have h5 := (end_bound h).1
  have h6 := allHours_bound hjo js.length (Nat.le_refl _)
  have h7 : endI js ss who * (ss.length : Int) ≤ 700 * 4 := by
    refine Int.le_trans (Int.mul_le_mul_of_nonneg_right h5.2 (by omega)) (Int.mul_le_mul_of_nonneg_left (by omega) (by omega))
  have h8 : 0 ≤ endI js ss who * (ss.length : Int) := Int.mul_nonneg h5.1 (by omega)
  refine ⟨h2, ?_⟩
  unfold idleI
  rw [h4]
  generalize endI js ss who * (ss.length : Int) = p at *
  have hw1 : w64 p = p := wrapI (by omega) (by omega)
  rw [hw1]
  exact wrapI (by omega) (by omega)
theorem hours_ge : ∀ i, i ≤ js.length → ∀ q, q < i → (jobAt js q).1 ≤ hoursTo js who (ixAt who q) i
  | 0, _, q, hq => by omega
  | i + 1, hi, q, hq => by
    obtain ⟨hjs, hall, hlen⟩ := whoC_zero h
    obtain ⟨hjo, hso, hj7, hs1, hs4⟩ := jobsB_parts hjs
    have hj := jobB_parts hjo (show i < js.length by omega)
    have hb := hoursTo_bound hjo who (ixAt who q) i (by omega)
    have hx := (who_ix hall (show q < who.length by omega)).1
    by_cases he : q = i
    · subst he
      rw [hoursTo, getI (show q < who.length by omega), hx, if_pos rfl]; omega
    · have := hours_ge i (by omega) q (by omega)
      rw [hoursTo]; split <;> omega
theorem end_top : ∀ i, i ≤ js.length → topHours js i ≤ endI js ss who
  | 0, _ => by have := (end_bound h).1; simp only [topHours]; omega
  | i + 1, hi => by
    obtain ⟨hjs, hall, hlen⟩ := whoC_zero h
    have h1 := end_top i (by omega)
    have h2 := hours_ge h js.length (Nat.le_refl _) i (by omega)
    have h3 := (end_bound h).2 _ (who_ix hall (show i < who.length by omega)).2
    simp only [topHours]; omega
theorem who_can {i : Nat} (hi : i < js.length) : (jobAt js i).2 ≤ ss.getD (ixAt who i) 0 := by
  obtain ⟨hjs, hall, hlen⟩ := whoC_zero h
  unfold whoC whoI at h
  rw [if_pos hjs, if_pos (by simp [hall, hlen])] at h
  split at h
  · rename_i hc
    have := List.all_eq_true.1 hc i (by simpa using hi)
    simp only [clashAt, Bool.not_eq_true', decide_eq_false_iff_not] at this
    omega
  · omega
end
end Go.Proofs.Ytaggfcnaedadaaa
