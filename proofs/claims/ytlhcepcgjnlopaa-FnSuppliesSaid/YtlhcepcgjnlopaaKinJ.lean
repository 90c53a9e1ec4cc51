/-
  Kinds, part 10: plain facts about the best rods, the ways and what is left. Conditions: none.
-/
import Derived.Test.YtlhcepcgjnlopaaKinI
set_option linter.unusedSimpArgs false
set_option linter.unusedVariables false
set_option linter.unusedSectionVars false
namespace Go.Proofs.Ytlhcepcgjnlopaa
open Go.Abs Go.RowKit Go.Law

theorem SmallK.bounds {ks : List I2} (h : SmallK ks) : ∀ k ∈ ks, (1 ≤ k.1 ∧ k.1 ≤ 24) ∧ 0 ≤ k.2 ∧ k.2 ≤ 7 := fun k hk => by
  obtain ⟨i, hi, rfl⟩ := List.getElem_of_mem hk
  have h1 := kinB_at h.1 hi
  have h2 := h.2.2 _ (List.getElem_mem hi)
  omega
theorem allW_from : ∀ (ks : List I2) (s : Int), (∀ k ∈ ks, (1 ≤ k.1 ∧ k.1 ≤ 24) ∧ 0 ≤ k.2 ∧ k.2 ≤ 7) → 0 ≤ s → s + 168 * (ks.length : Int) ≤ 1000000 →
    ks.foldl (fun s p => w64 (s + w64 (p.1 * p.2))) s = s + reachT ks (hv ks) ∧ 0 ≤ reachT ks (hv ks) ∧ reachT ks (hv ks) ≤ 168 * (ks.length : Int)
  | [], s, _, _, _ => by simp [reachT, hv]
  | k :: ks, s, h, hs, hb => by
    obtain ⟨⟨a1, a2⟩, b1, b2⟩ := h k (by simp)
    have p0 : 0 ≤ k.1 * k.2 := Int.mul_nonneg (by omega) b1
    have p1 : k.1 * k.2 ≤ 24 * 7 := Int.mul_le_mul a2 b2 b1 (by omega)
    simp only [List.length_cons] at hb
    have hw : w64 (s + w64 (k.1 * k.2)) = s + k.1 * k.2 := by
      unfold w64
      rw [wrapI (x := k.1 * k.2) (by omega) (by omega), wrapI (by omega) (by omega)]
    obtain ⟨h1, h2, h3⟩ := allW_from ks (s + k.1 * k.2) (fun x hx => h x (by simp [hx])) (by omega) (by omega)
    rw [List.foldl_cons, hw, h1]
    have e : reachT (k :: ks) (hv (k :: ks)) = k.1 * k.2 + reachT ks (hv ks) := by simp [reachT, hv, Int.mul_comm]
    rw [e, List.length_cons]
    omega
theorem allW_eq {ks : List I2} (h : SmallK ks) : allW ks = reachT ks (hv ks) ∧ 0 ≤ reachT ks (hv ks) ∧ reachT ks (hv ks) ≤ 504 := by
  have := allW_from ks 0 h.bounds (by omega) (by have := h.2.1; omega)
  have h3 := h.2.1
  unfold allW
  omega
theorem within_of {ks : List I2} {xs : List Int} (hl : xs.length = ks.length) (h : ∀ (i : Nat) (h : i < xs.length) (h' : i < ks.length), 0 ≤ xs[i] ∧ xs[i] ≤ ks[i].2) : Within (hv ks) xs := by
  induction ks generalizing xs with
  | nil => cases xs with
    | nil => trivial
    | cons _ _ => simp at hl
  | cons k ks ih => cases xs with
    | nil => simp at hl
    | cons x xs =>
      refine ⟨h 0 (by simp) (by simp), ih (by simpa using hl) fun i hi hi' => ?_⟩
      have := h (i + 1) (by simp; omega) (by simp; omega)
      simpa using this
theorem within_hv : ∀ {ks : List I2}, (∀ k ∈ ks, 0 ≤ k.2) → Within (hv ks) (hv ks)
  | [], _ => trivial
  | k :: ks, h => ⟨⟨h k (by simp), Int.le_refl _⟩, within_hv fun x hx => h x (by simp [hx])⟩
theorem reach_le : ∀ {ks : List I2} {xs : List Int}, (∀ k ∈ ks, 0 ≤ k.1) → Within (hv ks) xs → reachT ks xs ≤ reachT ks (hv ks)
  | [], xs, _, _ => by cases xs <;> simp [reachT, hv]
  | k :: ks, [], _, hw => hw.elim
  | k :: ks, x :: xs, h, hw => by
    have h1 := reach_le (ks := ks) (xs := xs) (fun y hy => h y (by simp [hy])) hw.2
    have h2 : x * k.1 ≤ k.2 * k.1 := Int.mul_le_mul_of_nonneg_right hw.1.2 (h k (by simp))
    have e : reachT (k :: ks) (hv (k :: ks)) = k.2 * k.1 + reachT ks (hv ks) := by simp [reachT, hv]
    rw [e]; simp only [reachT]; omega
theorem tuples_length : ∀ {hs : List Int}, (∀ h ∈ hs, 0 ≤ h ∧ h ≤ 7) → (tuples hs).length ≤ 8 ^ hs.length
  | [], _ => by simp [tuples]
  | h :: hs, hh => by
    have ih := tuples_length (hs := hs) fun x hx => hh x (by simp [hx])
    have h1 := hh h (by simp)
    have e : (tuples (h :: hs)).length = (upTo h).length * (tuples hs).length := by
      simp only [tuples, List.length_flatMap, List.length_map]
      rw [List.map_const', List.sum_replicate_nat]
    have hl : (upTo h).length ≤ 8 := by simp [upTo]; omega
    rw [e, List.length_cons, Nat.pow_succ, Nat.mul_comm]
    exact Nat.mul_le_mul ih hl

section
variable {ks : List I2} (hks : SmallK ks) {n : Int}
include hks
theorem mem_all {xs : List Int} : xs ∈ tuples (ks.map (·.2)) ↔ Within (hv ks) xs := mem_tuples (fun h hh => (hv_nonneg hks.1 h hh).1)
theorem best_none (h : (searchT ks n false).best = none) : reachT ks (hv ks) < n := by
  have h1 := (searchT_found ks n false).none_ h (hv ks) ((mem_all hks).2 (within_hv fun k hk => (hks.bounds k hk).2.1))
  omega
theorem best_some {b : List Int} (h : (searchT ks n false).best = some b) : Within (hv ks) b ∧ n ≤ reachT ks b ∧ reachT ks b ≤ reachT ks (hv ks) ∧ ∀ xs, Within (hv ks) xs → n ≤ reachT ks xs → reachT ks b ≤ reachT ks xs := by
  obtain ⟨h1, h2, h3⟩ := (searchT_found ks n false).some_ b h
  have hw := (mem_all hks).1 h1
  refine ⟨hw, h2, reach_le (fun k hk => by have := (hks.bounds k hk).1; omega) hw, fun xs hxs hn => ?_⟩
  have := h3 xs ((mem_all hks).2 hxs) hn
  simp [betterT] at this
  omega
theorem ways_pos : w64 (searchT ks n true).ways = (searchT ks n true).ways ∧ 0 ≤ (searchT ks n true).ways ∧ (0 < (searchT ks n true).ways ↔ ∃ xs, Within (hv ks) xs ∧ reachT ks xs = n) := by
  have hw := (searchT_found ks n true).ways
  have hl := tuples_length (hs := ks.map (·.2)) fun h hh => by
    obtain ⟨k, hk, rfl⟩ := List.mem_map.1 hh
    have := hks.bounds k hk; omega
  have hf := List.length_filter_le (fun xs => decide (reachT ks xs = n)) (tuples (ks.map (·.2)))
  have h8 : 8 ^ (ks.map (·.2)).length ≤ 8 ^ 3 := Nat.pow_le_pow_right (by omega) (by simpa using hks.2.1)
  have hb : (searchT ks n true).ways ≤ 512 := by rw [hw]; omega
  refine ⟨?_, by rw [hw]; omega, ?_⟩
  · unfold w64
    exact wrapI (by rw [hw]; omega) (by omega)
  · rw [hw]
    constructor
    · intro h
      have : 0 < (List.filter (fun xs => decide (reachT ks xs = n)) (tuples (ks.map (·.2)))).length := by omega
      obtain ⟨xs, hxs⟩ := List.exists_mem_of_length_pos this
      have := List.mem_filter.1 hxs
      exact ⟨xs, (mem_all hks).1 this.1, by simpa using this.2⟩
    · rintro ⟨xs, hxs, he⟩
      have : 0 < (List.filter (fun xs => decide (reachT ks xs = n)) (tuples (ks.map (·.2)))).length := List.length_pos_of_mem (List.mem_filter.2 ⟨(mem_all hks).2 hxs, by simpa using he⟩)
      omega
end
theorem takenC_ok {ks : List I2} (hks : kinB ks = true) {xs : List Int} (hl : xs.length = ks.length) (h : ∀ (i : Nat) (h : i < xs.length) (h' : i < ks.length), 0 ≤ xs[i] ∧ xs[i] ≤ ks[i].2) : takenC ks xs = 0 := by
  have : takenTo ks xs xs.length = true := by
    unfold takenTo
    rw [List.all_eq_true]
    intro i hi
    have hi' : i < xs.length := by simpa using hi
    rw [getD_lt hi', getD_lt (by omega)]
    have := h i hi' (by omega)
    simp [inB]; omega
  simp [takenC, hks, takenB_of hl this]
theorem within_get : ∀ {ks : List I2} {xs : List Int}, Within (hv ks) xs → ∀ (i : Nat) (h : i < xs.length) (h' : i < ks.length), 0 ≤ xs[i] ∧ xs[i] ≤ ks[i].2
  | [], _, _ => fun i h h' => by simp at h'
  | _ :: _, [], hw => hw.elim
  | k :: ks, x :: xs, hw => fun i h h' => by
    cases i with
    | zero => exact hw.1
    | succ i => simpa using within_get hw.2 i (by simpa using h) (by simpa using h')
end Go.Proofs.Ytlhcepcgjnlopaa
