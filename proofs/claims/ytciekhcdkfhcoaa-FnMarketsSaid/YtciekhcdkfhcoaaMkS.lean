/-
  Markets, part 19: the best markets, plain. Conditions: none.
-/
import Derived.Test.YtciekhcdkfhcoaaMkR
set_option linter.unusedSimpArgs false
set_option linter.unusedVariables false
set_option linter.unusedSectionVars false
namespace Go.Proofs.Ytciekhcdkfhcoaa
open Go.Abs Go.RowKit

/-- What some markets bring. -/
def bring (xs : List Mk) (ys : List Int) (s : Nat) : Int := (goTo xs ys (membersL s xs.length) (membersL s xs.length).length).2
theorem stepB_snd (xs : List Mk) (ys : List Int) (st : List Int × Int) (s : Nat) : st.2 ≤ (stepB xs ys st s).2 ∧ bring xs ys s ≤ (stepB xs ys st s).2 := by
  unfold stepB bring
  generalize (goTo xs ys (membersL s xs.length) (membersL s xs.length).length).2 = b
  repeat' split
  all_goals first | (constructor <;> omega) | (dsimp only; omega)
theorem bestS_ge (xs : List Mk) (ys : List Int) : ∀ k s, s < k → bring xs ys s ≤ (bestS xs ys k).2
  | 0, s, h => by omega
  | k + 1, s, h => by
    rw [bestS_succ]
    have h1 := stepB_snd xs ys (bestS xs ys k) k
    by_cases e : s = k
    · subst e; exact h1.2
    · have := bestS_ge xs ys k s (by omega)
      omega
theorem bestS_nonneg (xs : List Mk) (ys : List Int) : ∀ k, 0 ≤ (bestS xs ys k).2
  | 0 => by simp [bestS_zero]
  | k + 1 => by
    rw [bestS_succ]
    have h1 := stepB_snd xs ys (bestS xs ys k) k
    have := bestS_nonneg xs ys k
    omega
theorem bestS_is (xs : List Mk) (ys : List Int) : ∀ k, ∃ s, (bestS xs ys k).1 = membersL s xs.length
  | 0 => ⟨0, by simp [bestS_zero, membersL_zero]⟩
  | k + 1 => by
    rw [bestS_succ]
    unfold stepB
    repeat' split
    all_goals first | exact ⟨k, rfl⟩ | exact bestS_is xs ys k
theorem membersL_one (n i : Nat) (hi : i < n) : membersL (2 ^ i) n = [(i : Int)] := by
  induction n with
  | zero => omega
  | succ n ih =>
    rw [membersL_succ]
    have ht : (2 ^ i).testBit n = decide (i = n) := Nat.testBit_two_pow
    by_cases e : i = n
    · subst e
      rw [ht]
      have : membersL (2 ^ i) i = [] := by
        unfold membersL
        rw [List.map_eq_nil_iff, List.filter_eq_nil_iff]
        intro k hk
        have : (2 ^ i).testBit k = decide (i = k) := Nat.testBit_two_pow
        rw [this]
        simp at hk ⊢
        omega
      rw [this]; simp
    · rw [ht, ih (by omega)]; simp [e]
theorem wrap_wrap (x : Int) : w64 (w64 x) = w64 x := by
  show IntKind.i64.wrap (IntKind.i64.wrap x) = IntKind.i64.wrap x
  rw [IntKind.wrap_i64, IntKind.wrap_i64]; omega
theorem incOf_wrap (x : Mk) (ys : List Int) : w64 (incOf x ys) = incOf x ys := by
  unfold incOf
  cases ys.length with
  | zero => exact wrap_wrap _
  | succ k => exact wrap_wrap _
theorem bring_one {xs : List Mk} {ys : List Int} {i : Nat} (hi : i < xs.length) : bring xs ys (2 ^ i) = incOf xs[i] ys := by
  unfold bring
  rw [membersL_one _ _ hi]
  show (goTo xs ys [(i : Int)] 1).2 = _
  rw [goTo_succ xs ys [(i : Int)] (k := 0) (by simp), goTo_zero]
  simp only [goStep, List.getElem_cons_zero, Int.toNat_natCast, getM hi, Int.zero_add]
  exact incOf_wrap _ _
/-- No single market brings more. -/
theorem best_ge_one {xs : List Mk} {ys : List Int} {i : Nat} (hi : i < xs.length) : incOf xs[i] ys ≤ (bestS xs ys (2 ^ xs.length)).2 := by
  rw [← bring_one hi]
  exact bestS_ge xs ys _ _ (Nat.pow_lt_pow_right (by omega) hi)
theorem membersL_rise (s n : Nat) : (membersL s n).Pairwise (· < ·) := by
  unfold membersL
  rw [List.pairwise_map]
  refine List.Pairwise.imp (fun h => by exact_mod_cast h) (List.Pairwise.filter _ List.pairwise_lt_range)
theorem risesB_members (s n : Nat) : risesB (membersL s n) n = true := by
  unfold risesB
  rw [List.all_eq_true]
  intro i hi
  have hi : i < (membersL s n).length := by simpa using hi
  have hm := membersL_mem (List.getElem_mem hi)
  have hp := List.pairwise_iff_getElem.1 (membersL_rise s n)
  cases i with
  | zero => rw [riseAt_zero hi]; simp [inB]; omega
  | succ i =>
    rw [riseAt_succ hi]
    have := hp i (i + 1) (by omega) hi (by omega)
    simp [inB]; omega
theorem codeS_best {n : Int} {xs : List Mk} {ys : List Int} (hc : codeM n xs ys = 0) (k : Nat) : codeS n xs ys (bestS xs ys k).1 = 0 := by
  obtain ⟨s, hs⟩ := bestS_is xs ys k
  unfold codeS
  rw [if_pos hc, hs, if_pos (risesB_members s xs.length)]
theorem worthL_mem (xs : List Mk) (ys : List Int) {i : Nat} (hi : i < xs.length) : (i : Int) ∈ worthL xs ys xs.length ↔ 0 < incOf xs[i] ys := by
  unfold worthL
  constructor
  · intro h
    obtain ⟨j, hj, e⟩ := List.mem_map.1 h
    obtain rfl : j = i := by exact_mod_cast e
    have := (List.mem_filter.1 hj).2
    rw [getM hi] at this
    simpa using this
  · intro h
    refine List.mem_map.2 ⟨i, List.mem_filter.2 ⟨by simpa using hi, ?_⟩, rfl⟩
    rw [getM hi]; simpa using h
/-- What is left is never more than the stock. -/
theorem goTo_le {n : Int} {xs : List Mk} {ys zs : List Int} (hc : codeM n xs ys = 0) (hix : ∀ z ∈ zs, 0 ≤ z ∧ z < (xs.length : Int)) : ∀ k, k ≤ zs.length → ∀ i, i < ys.length → (goTo xs ys zs k).1.getD i 0 ≤ ys.getD i 0
  | 0, _, i, _ => by rw [goTo_zero]; exact Int.le_refl _
  | k + 1, hk, i, hi => by
    have ih := goTo_le hc hix k (by omega) i hi
    have hst := goTo_stock hc hix k (by omega)
    have hz := hix _ (List.getElem_mem (show k < zs.length by omega))
    have hl : (zs[k]).toNat < xs.length := by omega
    have hm := mksB_at (codeM_zero hc).1 hl
    have hL := goTo_length xs ys zs k
    have hb := (left_bound hm hst).2 i (by omega)
    rw [goTo_succ xs ys zs (by omega)]
    show (leftN (xs.getD (zs[k]).toNat dM) (goTo xs ys zs k).1 (goTo xs ys zs k).1.length).getD i 0 ≤ _
    rw [getM hl]
    have e : (leftN xs[(zs[k]).toNat] (goTo xs ys zs k).1 (goTo xs ys zs k).1.length).getD i 0 = leftAt xs[(zs[k]).toNat] (goTo xs ys zs k).1 i := by
      simp [leftN, List.getD_eq_getElem?_getD, hL, hi]
    rw [e]
    omega
theorem stock_ge {n : Int} {ys : List Int} (h : countsB ys n 1000 = true) {i : Nat} (hi : i < ys.length) : 0 ≤ ys.getD i 0 := by
  simp only [countsB, Bool.and_eq_true] at h
  have := List.all_eq_true.1 h.1 _ (List.getElem_mem hi)
  simp only [inB, Bool.and_eq_true, decide_eq_true_eq] at this
  simp [List.getD_eq_getElem?_getD, hi]; omega
/-- A sale is within the stock and what the market buys. -/
theorem sale_bound {n : Int} {x : Mk} {ys : List Int} (h : atC n x ys = 0) {k : Nat} (hk : k < ys.length) (hk2 : k < x.2.2.1.length) : 0 ≤ saleAt x ys k ∧ saleAt x ys k ≤ ys[k] ∧ saleAt x ys k ≤ x.2.2.1[k] := by
  obtain ⟨_, hm, hc, _, _, _⟩ := atC_zero h
  have h1 := (left_bound hm hc).2 k hk
  have e : saleAt x ys k = min ys[k] x.2.2.1[k] := by simp [saleAt, List.getD_eq_getElem?_getD, hk, hk2]
  rw [e] at h1 ⊢
  omega
end Go.Proofs.Ytciekhcdkfhcoaa
