/-
  Jobs, part 10: plain facts on missing skills. Conditions: none.
-/
import Derived.Test.YtaggfcnaedadaaaJobI
set_option linter.unusedSimpArgs false
set_option linter.unusedVariables false
set_option linter.unusedSectionVars false
namespace Go.Proofs.Ytaggfcnaedadaaa
open Go.Abs Go.RowKit

theorem maxTo_le : ∀ (xs : List Int) (b c : Int), maxTo xs b ≤ c ↔ b ≤ c ∧ ∀ x ∈ xs, x ≤ c
  | [], b, c => by simp [maxTo]
  | x :: xs, b, c => by
    show maxTo xs (max b x) ≤ c ↔ _
    rw [maxTo_le xs (max b x) c]
    simp only [List.mem_cons, forall_eq_or_imp]
    constructor
    · rintro ⟨h1, h2⟩; exact ⟨by omega, by omega, h2⟩
    · rintro ⟨h1, h2, h3⟩; exact ⟨by omega, h3⟩
theorem rises_filter (p : Nat → Bool) : ∀ (n k : Nat), k < (((List.range n).filter p).map fun (i : Nat) => (i : Int)).length → risesA (((List.range n).filter p).map fun (i : Nat) => (i : Int)) n k = true := by
  intro n k hk
  have hpw : (((List.range n).filter p).map fun (i : Nat) => (i : Int)).Pairwise (· < ·) := by
    rw [List.pairwise_map]
    refine List.Pairwise.imp ?_ ((List.pairwise_lt_range).filter p)
    intro a b h; exact Int.ofNat_lt.2 h
  generalize hL : (((List.range n).filter p).map fun (i : Nat) => (i : Int)) = L at *
  have hall : ∀ z ∈ L, 0 ≤ z ∧ z < (n : Int) := by
    rw [← hL]
    intro z hz
    simp only [List.mem_map, List.mem_filter, List.mem_range] at hz
    obtain ⟨i, ⟨hi, _⟩, he⟩ := hz
    omega
  have hb : 0 ≤ L[k] ∧ L[k] < n := hall _ (List.getElem_mem hk)
  simp only [risesA, List.getD_eq_getElem?_getD, List.getElem?_eq_getElem hk, Option.getD_some, decide_eq_true_eq]
  refine ⟨hb.1, hb.2, fun h0 => ?_⟩
  rw [List.getElem?_eq_getElem (show k - 1 < L.length by omega), Option.getD_some]
  exact List.pairwise_iff_getElem.1 hpw _ _ _ _ (by omega)
theorem has_filter (p : Nat → Bool) (n i : Nat) (hi : i < n) : (((List.range n).filter p).map fun (i : Nat) => (i : Int)).contains (i : Int) = p i := by
  rw [Bool.eq_iff_iff, List.contains_iff_mem]
  simp only [List.mem_map, List.mem_filter, List.mem_range]
  constructor
  · rintro ⟨j, ⟨_, h⟩, he⟩
    have : j = i := by omega
    rwa [this] at h
  · intro h; exact ⟨i, ⟨hi, h⟩, rfl⟩
/-- Can a job be made by one of the first k? -/
def canA (ss : List Int) (p : Int) (k : Nat) : Bool := (ss.take k).any fun s => decide (p ≤ s)
theorem canA_succ {ss : List Int} {p : Int} {k : Nat} (h : k < ss.length) : canA ss p (k + 1) = (canA ss p k || decide (p ≤ ss[k])) := by
  unfold canA
  rw [List.take_add_one, List.getElem?_eq_getElem h, List.any_append]
  simp
theorem can_has {js : List I2} {ss : List Int} (h : SmallJ js ss) {i : Nat} (hi : i < js.length) : canA ss js[i].2 ss.length = !(missL js ss).contains (i : Int) := by
  obtain ⟨h1, h2, h3, h4, h5⟩ := h
  rw [show missL js ss = ((List.range js.length).filter fun i => decide (maxTo ss 0 < (jobAt js i).2)).map fun (i : Nat) => (i : Int) from rfl, has_filter _ _ _ hi, jobAt_eq hi]
  unfold canA
  rw [List.take_length]
  have hmem : ss[0] ∈ ss := List.getElem_mem (by omega)
  have hz := (h3 _ hmem).1
  by_cases hc : maxTo ss 0 < js[i].2
  · rw [decide_eq_true hc]
    simp only [Bool.not_true, List.any_eq_false, decide_eq_true_eq]
    intro s hs
    have := (maxTo_le ss 0 (maxTo ss 0)).1 (Int.le_refl _)
    have := this.2 s hs
    omega
  · rw [decide_eq_false hc]
    simp only [Bool.not_false, List.any_eq_true, decide_eq_true_eq]
    rcases maxTo_mem ss 0 with h0 | h0
    · exact ⟨_, hmem, by omega⟩
    · exact ⟨_, h0, by omega⟩
theorem least_le {js : List I2} {ss : List Int} (h : SmallJ js ss) : ∀ k, k ≤ (missL js ss).length → 0 ≤ skillTo js (missL js ss) k ∧ skillTo js (missL js ss) k ≤ 3
  | 0, _ => by simp [skillTo]
  | k + 1, hk => by
    have ih := least_le h k (by omega)
    have hx := overTo_lt (js := js) (b := maxTo ss 0) (k := js.length) _ (List.getElem_mem (show k < (overTo js (maxTo ss 0) js.length).length from hk))
    have hj : ixAt (missL js ss) k < js.length := by
      have : ixAt (missL js ss) k = ((overTo js (maxTo ss 0) js.length)[k]'hk).toNat := by simp [ixAt, missL, List.getD_eq_getElem?_getD, List.getElem?_eq_getElem (show k < (overTo js (maxTo ss 0) js.length).length from hk)]; rfl
      omega
    have hp := h.1 _ (List.getElem_mem hj)
    simp only [skillTo, jobAt_eq hj]
    omega
theorem least_ge {js : List I2} {ss : List Int} : ∀ k (i : Nat), i < k → k ≤ (missL js ss).length → (jobAt js (ixAt (missL js ss) i)).2 ≤ skillTo js (missL js ss) k
  | 0, i, hi, _ => by omega
  | k + 1, i, hi, hk => by
    simp only [skillTo]
    by_cases h : i = k
    · subst h; exact Int.le_max_right _ _
    · exact Int.le_trans (least_ge k i (by omega) (by omega)) (Int.le_max_left _ _)
/-- What is missing has a skill above all. -/
theorem miss_at {js : List I2} {ss : List Int} {i : Nat} (hi : i < js.length) (h : maxTo ss 0 < js[i].2) : ∃ k, ∃ hk : k < (missL js ss).length, (missL js ss)[k] = (i : Int) := by
  have : (i : Int) ∈ missL js ss := by
    rw [← List.contains_iff_mem, show missL js ss = ((List.range js.length).filter fun i => decide (maxTo ss 0 < (jobAt js i).2)).map fun (i : Nat) => (i : Int) from rfl, has_filter _ _ _ hi, jobAt_eq hi, decide_eq_true h]
  obtain ⟨k, hk, he⟩ := List.getElem_of_mem this
  exact ⟨k, hk, he⟩
theorem least_covers {js : List I2} {ss : List Int} {i : Nat} (hi : i < js.length) (h : maxTo ss 0 < js[i].2) : js[i].2 ≤ leastI js ss := by
  obtain ⟨k, hk, he⟩ := miss_at hi h
  have := least_ge (js := js) (ss := ss) _ k hk (Nat.le_refl _)
  rw [show ixAt (missL js ss) k = i by simp [ixAt, List.getD_eq_getElem?_getD, List.getElem?_eq_getElem hk, he], jobAt_eq hi] at this
  exact this
theorem least_pos {js : List I2} {ss : List Int} (h : SmallJ js ss) : 0 < leastI js ss ↔ 0 < (missL js ss).length := by
  constructor
  · intro hp
    rcases Nat.eq_zero_or_pos (missL js ss).length with h0 | h0
    · exfalso; unfold leastI at hp; rw [h0] at hp; simp [skillTo] at hp
    · exact h0
  · intro hp
    have hmem := overTo_lt (js := js) (b := maxTo ss 0) (k := js.length) _ (List.getElem_mem (show 0 < (overTo js (maxTo ss 0) js.length).length from hp))
    obtain ⟨z, hin2⟩ : ∃ z, z ∈ missL js ss := ⟨_, List.getElem_mem hp⟩
    rw [show missL js ss = ((List.range js.length).filter fun i => decide (maxTo ss 0 < (jobAt js i).2)).map fun (i : Nat) => (i : Int) from rfl] at hin2
    simp only [List.mem_map, List.mem_filter, List.mem_range, decide_eq_true_eq] at hin2
    obtain ⟨i, ⟨hi, hlt⟩, _⟩ := hin2
    rw [jobAt_eq hi] at hlt
    have := least_covers hi hlt
    have h0 := (maxTo_le ss 0 (maxTo ss 0)).1 (Int.le_refl _)
    omega
theorem least_done {js : List I2} {ss : List Int} (h : SmallJ js ss) : earlyC js (ss ++ [leastI js ss]) = 0 := by
  have hb := least_le h _ (Nat.le_refl _)
  have hl : 0 ≤ leastI js ss ∧ leastI js ss ≤ 3 := hb
  have hok : jobsB js (ss ++ [leastI js ss]) = true := by
    obtain ⟨h1, h2, h3, h4, h5⟩ := h
    simp only [jobsB, Bool.and_eq_true, decide_eq_true_eq, List.all_eq_true]
    refine ⟨⟨⟨fun p hp => ?_, fun s hs => ?_⟩, by omega⟩, ?_⟩
    · have := h1 p hp
      simp [jobB, inB]; omega
    · rcases List.mem_append.1 hs with hs | hs
      · have := h3 s hs
        simp [inB]; omega
      · simp at hs; subst hs; simp [inB]; omega
    · simp [inB]; omega
  have hnone : missL js (ss ++ [leastI js ss]) = [] := by
    rw [show missL js (ss ++ [leastI js ss]) = ((List.range js.length).filter fun i => decide (maxTo (ss ++ [leastI js ss]) 0 < (jobAt js i).2)).map fun (i : Nat) => (i : Int) from rfl]
    rw [List.map_eq_nil_iff, List.filter_eq_nil_iff]
    intro i hi
    simp only [List.mem_range] at hi
    simp only [decide_eq_true_eq, jobAt_eq hi]
    have hm : maxTo (ss ++ [leastI js ss]) 0 = max (maxTo ss 0) (leastI js ss) := by simp [maxTo, List.foldl_append]
    rw [hm]
    by_cases hc : maxTo ss 0 < js[i].2
    · have := least_covers hi hc; omega
    · omega
  simp [earlyC, hok, hnone]
end Go.Proofs.Ytaggfcnaedadaaa
