/-
  Kinds, part 1: the contracts of the small functions of kinds of rods. Conditions: none.
-/
import Derived.Test.YtielbajlpnplaaaPotA
import Derived.Test.YtielbajlpnplaaaAbsRows
namespace Go.Proofs.Ytielbajlpnplaaa
open Go.Abs Go.RowKit

/-- What is left of the room. -/
def leftI (n : Nat) (b : Int) : Int := if b - n < 0 then -1 else b - n
theorem leftI_ok {n : Nat} {b : Int} (h : decide (leftI n b < 0) = false) : (n : Int) ≤ b ∧ leftI n b = b - n := by
  simp only [decide_eq_false_iff_not] at h
  unfold leftI at h ⊢
  split at h <;> split <;> omega
theorem szKindS_c (a : Option Addr) (n : Nat) (b : Int) (m : Mem) (hn : n ≤ maxLen) (hb : 0 ≤ b ∧ b ≤ 1048576) : ACalls Try.prog 19 [.slice a n n, .int .i64 b] m (.int .i64 (leftI n b)) m := by
  refine acalls_of_vc Try.func19 rfl Try.fol (by kernel_rfl) ?_
  simp only [Try.f19]
  simp -dsimp -implicitDefEqProofs
  have : n ≤ 9223372036854775807 := hn
  rw [wrapI (by omega) (by omega)]
  refine ⟨fun h => GC.eq ?_, fun h => GC.eq ?_⟩ <;> simp at h <;> simp [leftI]
  · omega
  · omega
theorem toKind_c (p : I2) (m : Mem) : ACalls Try.prog 41 [.agg (v2 p).toArray] m (.agg (v2 p).toArray) m := by
  refine acalls_of_vc Try.func41 rfl Try.fol (by kernel_rfl) ?_
  simp only [Try.f41, v2]
  simp -dsimp -implicitDefEqProofs
  exact GC.dropEq rfl rfl
theorem toKindS_c (xs : List I2) (a : Option Addr) (m : Mem) (hr : RdG v2 2 m a xs) (hn : xs.length ≤ 1048576) :
    ACalls Try.prog 21 [.slice a xs.length xs.length] m (.slice (some ⟨m.length, 0, none⟩) xs.length xs.length) (m ++ [⟨(xs.map v2).flatten, 63, 2, 1⟩]) := by
  have hg : ∀ x, (v2 x).length = 2 := fun _ => rfl
  have hz : [Value.int .i64 0, .int .i64 0].length = 2 := rfl
  refine acalls_of_vc Try.func21 rfl Try.fol (by kernel_rfl) ?_
  simp only [Try.f21]
  simp -dsimp -implicitDefEqProofs
  refine need_intro (by omega) ?_
  refine loopT (fun c σ m' => ∃ k : Nat, c = xs.length - k ∧ k ≤ xs.length ∧ m' = m ++ [⟨partCells v2 [.int .i64 0, .int .i64 0] xs k, 63, 2, 1⟩] ∧ σ 0 = some (.slice a xs.length xs.length) ∧
      σ 3 = some (.slice (some ⟨m.length, 0, none⟩) xs.length xs.length) ∧ σ 4 = some (.int .i64 k)) _ ⟨0, rfl, Nat.zero_le _, ?_, by simp, by simp, by simp⟩ ?_
  · exact congrArg (fun c => m ++ [(⟨c, _, 2, 1⟩ : AObj)]) (partCells_zero v2 #[.int .i64 0, .int .i64 0] xs (by simp))
  rintro _ σ m' ⟨k, rfl, hk, rfl, s0, s3, s4⟩
  by_cases hlt : k < xs.length
  · obtain ⟨id, off, o, rfl, hm, hkd, hsz, hl, hrow, hc0, hc1⟩ := R2.at_ hr hlt
    have hm' := fun l => withO_of (get_old (l := l) hm)
    simp -dsimp -implicitDefEqProofs [s0, s3, s4, hlt, hm', hkd, hsz, hl, hrow]
    refine callsTo Try.cal41 (toKind_c _ _) ?_
    simp -dsimp -implicitDefEqProofs [s0, s3, s4, hlt, hm', hkd, hsz, hl, hrow, hg, partCells_length hg hz xs hk, partCells_set hg hz xs hlt]
    refine need_intro (by omega) ?_
    refine invT (xs.length - (k + 1)) (by omega) ⟨k + 1, rfl, by omega, rfl, by simp [s0], by simp [s3], ?_⟩
    simp
    exact wrapI (by omega) (by omega)
  · simp -dsimp -implicitDefEqProofs [s0, s3, s4, hlt]
    have : k = xs.length := by omega
    subst this
    rw [partCells_all]
    exact GC.refl _ _ _
theorem eqKind_c (p q : I2) (m : Mem) : ACalls Try.prog 43 [.agg (v2 p).toArray, .agg (v2 q).toArray] m (.bool (decide (p = q))) m := by
  refine acalls_of_vc Try.func43 rfl Try.fol (by kernel_rfl) ?_
  simp only [Try.f43, v2]
  simp -dsimp -implicitDefEqProofs
  refine ⟨fun h => GC.dropEq ?_ rfl, fun h => ⟨fun h' => GC.dropEq ?_ rfl, fun h' => GC.dropEq ?_ rfl⟩⟩
  · simp at h; simp [Prod.ext_iff, h]
  · simp at h h'; simp [Prod.ext_iff, h']
  · simp at h h'; simp [Prod.ext_iff, h, h']

theorem take_succ_eq {α : Type} {xs ys : List α} {k : Nat} (h : k < xs.length) (h' : k < ys.length) (ht : xs.take k = ys.take k) (he : xs[k] = ys[k]) : xs.take (k + 1) = ys.take (k + 1) := by
  rw [List.take_add_one, List.take_add_one, List.getElem?_eq_getElem h, List.getElem?_eq_getElem h', ht, he]
theorem eqKindS_c (xs ys : List I2) (a b : Option Addr) (m : Mem) (hr : RdG v2 2 m a xs) (hs : RdG v2 2 m b ys) (hn : xs.length ≤ 1048576) :
    ACalls Try.prog 23 [.slice a xs.length xs.length, .slice b ys.length ys.length] m (.bool (decide (xs = ys))) m := by
  refine acalls_of_vc Try.func23 rfl Try.fol (by kernel_rfl) ?_
  simp only [Try.f23]
  simp -dsimp -implicitDefEqProofs
  refine ⟨fun h => GC.eq ?_, fun h => ?_⟩
  · have : xs ≠ ys := by rintro rfl; simp at h
    simp [this]
  have hxy : xs.length = ys.length := by simp at h; omega
  refine loopT (fun c σ m' => ∃ k : Nat, c = xs.length - k ∧ k ≤ xs.length ∧ m' = m ∧ σ 0 = some (.slice a xs.length xs.length) ∧ σ 1 = some (.slice b ys.length ys.length) ∧ σ 5 = some (.int .i64 k) ∧ xs.take k = ys.take k) _
    ⟨0, rfl, Nat.zero_le _, rfl, by simp, by simp, by simp, by simp⟩ ?_
  rintro _ σ m' ⟨k, rfl, hk, rfl, s0, s1, s5, ht⟩
  by_cases hlt : k < xs.length
  · have hlt' : k < ys.length := by omega
    obtain ⟨id, off, o, rfl, hm, hkd, hsz, hl, hrow, hc0, hc1⟩ := R2.at_ hr hlt
    obtain ⟨id', off', o', rfl, hm', hkd', hsz', hl', hrow', hc0', hc1'⟩ := R2.at_ hs hlt'
    simp -dsimp -implicitDefEqProofs [s0, s1, s5, hlt, hlt', withO_of hm, hkd, hsz, hl, hrow, withO_of hm', hkd', hsz', hl', hrow']
    refine callsTo Try.cal43 (eqKind_c _ _ _) ?_
    simp -dsimp -implicitDefEqProofs [s0, s1, s5, hlt, hlt']
    refine ⟨fun g => GC.eq ?_, fun g => ?_⟩
    · simp at g
      have : xs ≠ ys := by rintro rfl; exact g rfl
      simp [this]
    · simp at g
      refine invT (xs.length - (k + 1)) (by omega) ⟨k + 1, rfl, by omega, rfl, by simp [s0], by simp [s1], ?_, take_succ_eq hlt hlt' ht g⟩
      simp
      exact wrapI (by omega) (by omega)
  · simp -dsimp -implicitDefEqProofs [s0, s1, s5, hlt]
    refine GC.eq ?_
    rw [List.take_of_length_le (by omega), List.take_of_length_le (by omega)] at ht
    simp [ht]
end Go.Proofs.Ytielbajlpnplaaa
