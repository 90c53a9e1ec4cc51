/-
  Markets, part 17: best prices and stocks, plain. Conditions: none.
-/
import Derived.Test.YtciekhcdkfhcoaaMkP
set_option linter.unusedSimpArgs false
set_option linter.unusedVariables false
set_option linter.unusedSectionVars false
namespace Go.Proofs.Ytciekhcdkfhcoaa
open Go.Abs Go.RowKit

theorem bestTo_max (xs : List Mk) (s : Nat) : ∀ k i, i < k → priceAt xs i s ≤ priceAt xs (bestTo xs s k) s
  | 0, i, h => by omega
  | k + 1, i, h => by
    rw [bestTo_succ]
    by_cases e : i = k
    · subst e
      split
      · exact Int.le_refl _
      · omega
    · have ih := bestTo_max xs s k i (by omega)
      split
      · omega
      · exact ih
theorem left_bound {n : Int} {x : Mk} {ys : List Int} (h1 : mkB n x = true) (h2 : countsB ys n 1000 = true) : countsB (leftN x ys ys.length) n 1000 = true ∧ ∀ k, k < ys.length → leftAt x ys k = ys.getD k 0 - saleAt x ys k ∧ 0 ≤ saleAt x ys k ∧ saleAt x ys k ≤ ys.getD k 0 := by
  simp only [mkB, Bool.and_eq_true, countsB, decide_eq_true_eq] at h1
  simp only [countsB, Bool.and_eq_true, decide_eq_true_eq] at h2
  have hs := h1.1.2
  have key : ∀ k, k < ys.length → (leftAt x ys k = ys.getD k 0 - saleAt x ys k ∧ 0 ≤ saleAt x ys k ∧ saleAt x ys k ≤ ys.getD k 0) ∧ 0 ≤ leftAt x ys k ∧ leftAt x ys k ≤ 1000 := fun k hk => by
    have hk2 : k < x.2.2.1.length := by omega
    have g1 := List.all_eq_true.1 h2.1 _ (List.getElem_mem hk)
    have g2 := List.all_eq_true.1 hs.1 _ (List.getElem_mem hk2)
    simp only [inB, Bool.and_eq_true, decide_eq_true_eq] at g1 g2
    have hsa : saleAt x ys k = min ys[k] x.2.2.1[k] := by simp [saleAt, List.getD_eq_getElem?_getD, hk, hk2]
    have hy : ys.getD k 0 = ys[k] := by simp [List.getD_eq_getElem?_getD, hk]
    have hw : leftAt x ys k = ys[k] - saleAt x ys k := by unfold leftAt; rw [hy]; exact wrapI (by omega) (by omega)
    rw [hy]
    refine ⟨⟨hw, by omega, by omega⟩, by omega, by omega⟩
  refine ⟨?_, fun k hk => (key k hk).1⟩
  simp only [countsB, Bool.and_eq_true, decide_eq_true_eq]
  refine ⟨?_, by rw [leftN_length]; exact h2.2⟩
  rw [List.all_eq_true]
  intro z hz
  simp only [leftN, List.mem_map, List.mem_range] at hz
  obtain ⟨k, hk, rfl⟩ := hz
  have := (key k hk).2
  simp [inB]; omega
/-- What is left is a stock. -/
theorem goTo_stock {n : Int} {xs : List Mk} {ys zs : List Int} (hc : codeM n xs ys = 0) (hix : ∀ z ∈ zs, 0 ≤ z ∧ z < (xs.length : Int)) : ∀ k, k ≤ zs.length → countsB (goTo xs ys zs k).1 n 1000 = true
  | 0, _ => by
    rw [goTo_zero]
    unfold codeM at hc
    split at hc
    · split at hc
      · rename_i h; exact h
      · omega
    · omega
  | k + 1, hk => by
    have ih := goTo_stock hc hix k (by omega)
    rw [goTo_succ xs ys zs (by omega)]
    have hz := hix _ (List.getElem_mem (show k < zs.length by omega))
    have hl : (zs[k]).toNat < xs.length := by omega
    have hm := mksB_at (codeM_zero hc).1 hl
    show countsB (leftN (xs.getD (zs[k]).toNat dM) (goTo xs ys zs k).1 (goTo xs ys zs k).1.length) n 1000 = true
    rw [getM hl]
    exact (left_bound hm ih).1
theorem at_ok {n : Int} {xs : List Mk} {ys ws : List Int} (hc : codeM n xs ys = 0) {i : Nat} (hi : i < xs.length) (hw : countsB ws n 1000 = true) : atC n xs[i] ws = 0 := by
  obtain ⟨h1, h2, h3⟩ := mksB_n (codeM_zero hc).1
  unfold atC
  rw [if_pos, if_pos hw]
  rw [mksB_at (codeM_zero hc).1 hi]
  simp [inB]; omega
/-- A slice that may be nil, as one reads it. -/
def optA (l : Nat) : Option (List Int) → Option Addr
  | none => none
  | some _ => some ⟨l, 0, none⟩
theorem optV_eq (l : Nat) (o : Option (List Int)) : optV l o = .slice (optA l o) (o.getD []).length (o.getD []).length := by cases o <;> rfl
theorem optRd (m : Mem) (e : TypeId) (o : Option (List Int)) : RdI (m ++ optM e o) (optA m.length o) (o.getD []) := by
  cases o with
  | none => exact RdI.nil _ _
  | some ys => exact RdI.of_get (o := ⟨ys.map (Value.int .i64), e, 1, 2⟩) (by simp [optM]) (by simp) rfl rfl
theorem rdPre {m m' : Mem} {a : Option Addr} {xs : List Int} (h : RdI m a xs) (hp : m <+: m') : RdI m' a xs := by obtain ⟨l, rfl⟩ := hp; exact h.ext l
theorem optLen {o : Option (List Int)} {B : Nat} (h : ∀ ys, o = some ys → ys.length ≤ B) : (o.getD []).length ≤ B := by
  cases o with
  | none => simp
  | some ys => exact h ys rfl
theorem row0 {m : Mem} {im : Nat} {xs : List Mk} (h : RdM m (some ⟨im, 0, none⟩) xs) {i : Nat} (hi : i < xs.length) : ∃ o ad bd, m[im]? = some o ∧ o.kind ≤ 2 ∧ o.sz = 4 ∧ MkAt m o i xs[i] ad bd := by
  obtain ⟨id, off, o, ad, bd, e, h1, h2, h3, h4⟩ := h i hi
  injection e with e
  injection e with e1 e2
  subst e1; subst e2
  rw [Nat.zero_add] at h4
  exact ⟨o, ad, bd, h1, h2, h3, h4⟩
end Go.Proofs.Ytciekhcdkfhcoaa
