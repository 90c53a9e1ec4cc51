/-
  Lists of lists of whole numbers: the contracts of what copies, counts and compares them. Conditions: none.
-/
import Derived.Test.YtnipgigpjhalkaaBase
set_option linter.unusedSimpArgs false
set_option linter.unusedVariables false
set_option linter.unusedSectionVars false
namespace Go.Proofs.Ytnipgigpjhalkaa
open Go.Abs Go.RowKit

theorem szInt64S_c (a : Option Addr) (n : Nat) (b : Int) (m : Mem) (hn : n ≤ maxLen) (hb : 0 ≤ b ∧ b ≤ 1048576) : ACalls Try.prog 70 [.slice a n n, .int .i64 b] m (.int .i64 (leftI n b)) m := by
  refine acalls_of_vc Try.func70 rfl Try.fol (by kernel_rfl) ?_
  simp only [Try.f70]
  simp -dsimp -implicitDefEqProofs
  have : n ≤ 9223372036854775807 := hn
  rw [wrapI (by omega) (by omega)]
  refine ⟨fun h => GC.eq ?_, fun h => GC.eq ?_⟩ <;> simp at h <;> simp [leftI]
  · omega
  · omega
theorem leftI_neg {n : Nat} {b : Int} (h : decide (leftI n b < 0) = true) : leftI n b = -1 ∧ b - n < 0 := by
  simp only [decide_eq_true_eq] at h
  unfold leftI at h ⊢
  split at h <;> split <;> omega
theorem szInt64SS_c (xss : List (List Int)) (a : Option Addr) (b : Int) (m : Mem) (hr : RdSS m a xss) (hn : xss.length ≤ maxLen) (hn' : ∀ xs ∈ xss, xs.length ≤ maxLen) (hb : 0 ≤ b ∧ b ≤ 1048576) :
    ACalls Try.prog 37 [.slice a xss.length xss.length, .int .i64 b] m (.int .i64 (leftI (xss.length + sumLen xss) b)) m := by
  have hmx : xss.length ≤ 9223372036854775807 := hn
  have hw0 : IntKind.i64.wrap (b - (xss.length : Int)) = b - xss.length := wrapI (by omega) (by omega)
  refine acalls_of_vc Try.func37 rfl Try.fol (by kernel_rfl) ?_
  simp only [Try.f37]
  simp -dsimp -implicitDefEqProofs [hw0]
  refine ⟨fun h => GC.eq ?_, fun h => ?_⟩
  · simp at h; simp [leftI]; omega
  simp at h
  refine loopN xss.length (fun k σ m' => m' = m ∧ (σ 0 = some (.slice a xss.length xss.length) ∧ σ 1 = some (.int .i64 (b - xss.length - sumLen (xss.take k))) ∧ σ 5 = some (.int .i64 k)) ∧ 0 ≤ b - xss.length - (sumLen (xss.take k) : Int)) ⟨rfl, by simp [sumLen], by simp [sumLen]; omega⟩ ?_
  rintro k σ m' hk ⟨rfl, ⟨s0, s1, s5⟩, hpos⟩
  by_cases hlt : k < xss.length
  · obtain ⟨id, off, o, ad, rfl, hm, hkd, hsz, hc, hrd⟩ := hr k hlt
    have hw : IntKind.i64.wrap ((k : Int) + 1) = k + 1 := wrapI (by omega) (by omega)
    have hss := sumLen_succ hlt
    have htk := sumLen_take xss (k + 1)
    simp -dsimp -implicitDefEqProofs [s0, s1, s5, hlt, withO_of hm, hkd, hsz, withC_of hc, hw]
    refine callsTo Try.cal70 (szInt64S_c ad _ _ _ (hn' _ (List.getElem_mem hlt)) ⟨hpos, by omega⟩) ?_
    simp -dsimp -implicitDefEqProofs [s0, s1, s5, hlt, withO_of hm, hkd, hsz, withC_of hc, hw]
    refine ⟨fun g => GC.eq ?_, fun g => ?_⟩
    · have := (leftI_neg g).2
      have : b - ((xss.length + sumLen xss : Nat) : Int) < 0 := by omega
      rw [leftI, if_pos this]
    · obtain ⟨g1, g2⟩ := leftI_ok g
      refine next_ hlt ⟨rfl, ⟨by simp [s0], by simp [g2, hss]; omega, by simp [hw]⟩, by rw [hss]; omega⟩
  · simp -dsimp -implicitDefEqProofs [s0, s1, s5, hlt]
    rw [List.take_of_length_le (by omega)] at hpos ⊢
    have : ¬ (b - ((xss.length + sumLen xss : Nat) : Int) < 0) := by omega
    exact GC.eq (by simp only [leftI, this, if_false]; congr 1; omega)
theorem eqInt64SS_c (xss : List (List Int)) (a b : Option Addr) (m : Mem) (hr : RdSS m a xss) (hs : RdSS m b xss) (hn : xss.length ≤ 1048576) (hn' : ∀ xs ∈ xss, xs.length ≤ 1048576) :
    ACalls Try.prog 41 [.slice a xss.length xss.length, .slice b xss.length xss.length] m (.bool true) m := by
  refine acalls_of_vc Try.func41 rfl Try.fol (by kernel_rfl) ?_
  simp only [Try.f41]
  simp -dsimp -implicitDefEqProofs
  refine loopN xss.length (fun k σ m' => m' = m ∧ σ 0 = some (.slice a xss.length xss.length) ∧ σ 1 = some (.slice b xss.length xss.length) ∧ σ 5 = some (.int .i64 k)) ⟨rfl, by simp⟩ ?_
  rintro k σ m' hk ⟨rfl, s0, s1, s5⟩
  by_cases hlt : k < xss.length
  · obtain ⟨id, off, o, ad, rfl, hm, hkd, hsz, hc, hrd⟩ := hr k hlt
    obtain ⟨id', off', o', ad', rfl, hm', hkd', hsz', hc', hrd'⟩ := hs k hlt
    have hw : IntKind.i64.wrap ((k : Int) + 1) = k + 1 := wrapI (by omega) (by omega)
    simp -dsimp -implicitDefEqProofs [s0, s1, s5, hlt, withO_of hm, hkd, hsz, withC_of hc, withO_of hm', hkd', hsz', withC_of hc', hw]
    refine callsTo Try.cal26 (eqInt64S_c xss[k] xss[k] _ _ _ hrd hrd' (hn' _ (List.getElem_mem hlt))) ?_
    simp -dsimp -implicitDefEqProofs [s0, s1, s5, hlt, withO_of hm, hkd, hsz, withC_of hc, withO_of hm', hkd', hsz', withC_of hc', hw]
    exact next_ hlt ⟨rfl, by simp [s0, s1, hw]⟩
  · simp -dsimp -implicitDefEqProofs [s0, s1, s5, hlt]
    exact GC.refl _ _ _
theorem toInt64SS_c (xss : List (List Int)) (a : Option Addr) (m : Mem) (hr : RdSS m a xss) (hn : xss.length ≤ 1048576) (hn' : ∀ xs ∈ xss, xs.length ≤ 1048576) :
    ∃ v m', ACalls Try.prog 39 [.slice a xss.length xss.length] m v m' ∧ (v = .slice (some ⟨m.length, 0, none⟩) xss.length xss.length ∧ m <+: m' ∧ RdSS m' (some ⟨m.length, 0, none⟩) xss) := by
  refine ecalls_of_vc Try.func39 rfl Try.fol (by kernel_rfl) ?_
  simp only [Try.f39]
  simp -dsimp -implicitDefEqProofs
  refine need_intro (by omega) ?_
  refine loopN xss.length (fun k σ m' => m <+: m' ∧ (∃ o, m'[m.length]? = some o ∧ (o.kind = 1 ∧ o.sz = 1 ∧ o.cells.length = xss.length) ∧ ∀ (i : Nat) (h : i < xss.length), i < k → ∃ j, m.length < j ∧ o.cells[i]? = some (.slice (some ⟨j, 0, none⟩) xss[i].length xss[i].length) ∧ m'[j]? = some ⟨xss[i].map (Value.int .i64), 2, 1, 1⟩) ∧
      σ 0 = some (.slice a xss.length xss.length) ∧ σ 3 = some (.slice (some ⟨m.length, 0, none⟩) xss.length xss.length) ∧ σ 4 = some (.int .i64 k)) ⟨pre_app (pre_refl m) _, ⟨_, by simp; rfl, by simp, by simp⟩, by simp⟩ ?_
  rintro k σ m' hk ⟨hp, ⟨o0, ho, ⟨ok1, ok2, ok3⟩, hall⟩, s0, s3, s4⟩
  by_cases hlt : k < xss.length
  · obtain ⟨id, off, o, ad, rfl, hm, hkd, hsz, hc, hrd⟩ := hr k hlt
    have hw : IntKind.i64.wrap ((k : Int) + 1) = k + 1 := wrapI (by omega) (by omega)
    have hm' := prefix_get hp hm
    have hml : m.length < m'.length := (List.getElem?_eq_some_iff.1 ho).1
    have hko : o0.kind ≤ 2 := by omega
    have hk1 : 1 ≤ o0.kind := by omega
    simp -dsimp -implicitDefEqProofs [s0, s3, s4, hlt, withO_of hm', hkd, hsz, withC_of hc, hw, fun l => withO_of (get_old (l := l) ho), ok1, ok2, ok3]
    refine callsTo Try.cal33 (toInt64S_c xss[k] _ _ (hrd.pre hp) (hn' _ (List.getElem_mem hlt))) ?_
    simp -dsimp -implicitDefEqProofs [s0, s3, s4, hlt, withO_of hm', hkd, hsz, withC_of hc, hw, fun l => withO_of (get_old (l := l) ho), ok1, ok2, ok3]
    refine need_intro (by omega) ?_
    refine next_ hlt ⟨pre_set (pre_app hp _) (Nat.le_refl _) _, ⟨_, List.getElem?_set_self (by simp; omega), ⟨by simp, by simp, by simp [ok3]⟩, fun i hi hik => ?_⟩, by simp [s0, s3, hw]⟩
    by_cases hik' : i = k
    · subst hik'
      refine ⟨m'.length, hml, by simp [ok3, hlt], ?_⟩
      rw [List.getElem?_set_ne (by omega)]; simp
    · obtain ⟨j', g1, g2, g3⟩ := hall i hi (by omega)
      refine ⟨j', g1, by simp [List.getElem?_set_ne (Ne.symm hik'), g2], ?_⟩
      rw [List.getElem?_set_ne (by omega)]
      exact get_old g3
  · simp -dsimp -implicitDefEqProofs [s0, s3, s4, hlt]
    obtain rfl : k = xss.length := by omega
    refine ⟨_, _, GC.refl _ _ _, rfl, hp, fun i hi => ?_⟩
    obtain ⟨j', g1, g2, g3⟩ := hall i hi hi
    exact ⟨_, 0, o0, _, rfl, ho, by omega, ok2, by simpa using g2, RdI.of_get (o := ⟨_, _, 1, 1⟩) g3 (by simp) rfl rfl⟩
end Go.Proofs.Ytnipgigpjhalkaa
