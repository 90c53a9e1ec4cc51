/-
  Baskets, part 1: the contracts of what copies, measures and compares layers and baskets. Conditions: none.
-/
import Derived.Test.YtmbijgnmbapchaaDoorBase
import Derived.Test.YtmbijgnmbapchaaDoorAbsStr
set_option linter.unusedSimpArgs false
set_option linter.unusedVariables false
set_option linter.unusedSectionVars false
namespace Go.Proofs.YtmbijgnmbapchaaDoor
open Go.Abs Go.RowKit

/-! ### Layers -/
abbrev LyT := ByteArray × Int
def vl (p : LyT) : List Value := [.string p.1, .int .i64 p.2]
theorem RL.at_ {m : Mem} {a : Option Addr} {xs : List LyT} (h : RdG vl 2 m a xs) {i : Nat} (hi : i < xs.length) :
    ∃ id off o, a = some ⟨id, off, none⟩ ∧ m[id]? = some o ∧ o.kind ≤ 2 ∧ o.sz = 2 ∧ (off + i) * 2 + 2 ≤ o.cells.length ∧ (o.cells.drop ((off + i) * 2)).take 2 = vl xs[i] ∧
      o.cells[(off + i) * 2]? = some (.string xs[i].1) ∧ o.cells[(off + i) * 2 + 1]? = some (.int .i64 xs[i].2) := by
  obtain ⟨id, off, o, ha, hm, hk, hsz, h2, h1, hc⟩ := RdG.at_ h hi
  exact ⟨id, off, o, ha, hm, hk, hsz, h2, h1, by have := hc 0 _ rfl; simpa using this, hc 1 _ rfl⟩
def sumLy (xs : List LyT) : Nat := (xs.map fun p => p.1.size).sum
theorem sumLy_succ {xs : List LyT} {k : Nat} (h : k < xs.length) : sumLy (xs.take (k + 1)) = sumLy (xs.take k) + xs[k].1.size := by
  unfold sumLy
  rw [List.take_add_one, List.getElem?_eq_getElem h, List.map_append, List.sum_append]; simp
theorem sumLy_take (xs : List LyT) (k : Nat) : sumLy (xs.take k) ≤ sumLy xs := by
  have : sumLy xs = sumLy (xs.take k) + sumLy (xs.drop k) := by
    conv => lhs; rw [← List.take_append_drop k xs]
    unfold sumLy
    rw [List.map_append, List.sum_append]
  omega
theorem leftI_neg {n : Nat} {b : Int} (h : decide (leftI n b < 0) = true) : leftI n b = -1 ∧ b - n < 0 := by
  simp only [decide_eq_true_eq] at h
  unfold leftI at h ⊢
  split at h <;> split <;> omega
theorem szLayer_c (p : LyT) (b : Int) (m : Mem) (hn : p.1.size ≤ maxLen) (hb : 0 ≤ b ∧ b ≤ 1048576) : ACalls Tryd.prog 101 [.agg (vl p).toArray, .int .i64 b] m (.int .i64 (leftI p.1.size b)) m := by
  refine acalls_of_vc Tryd.func101 rfl Tryd.fol (by kernel_rfl) ?_
  simp only [Tryd.f101, vl]
  simp -dsimp -implicitDefEqProofs
  have : p.1.size ≤ 9223372036854775807 := hn
  rw [wrapI (by omega) (by omega)]
  refine ⟨fun h => GC.dropEq ?_ rfl, fun h => GC.dropEq ?_ rfl⟩ <;> simp at h <;> simp [leftI]
  · omega
  · omega
theorem szLayerS_c (xs : List LyT) (a : Option Addr) (b : Int) (m : Mem) (hr : RdG vl 2 m a xs) (hn : xs.length ≤ maxLen) (hn' : ∀ x ∈ xs, x.1.size ≤ maxLen) (hb : 0 ≤ b ∧ b ≤ 1048576) :
    ACalls Tryd.prog 55 [.slice a xs.length xs.length, .int .i64 b] m (.int .i64 (leftI (xs.length + sumLy xs) b)) m := by
  have hmx : xs.length ≤ 9223372036854775807 := hn
  have hw0 : IntKind.i64.wrap (b - (xs.length : Int)) = b - xs.length := wrapI (by omega) (by omega)
  refine acalls_of_vc Tryd.func55 rfl Tryd.fol (by kernel_rfl) ?_
  simp only [Tryd.f55]
  simp -dsimp -implicitDefEqProofs [hw0]
  refine ⟨fun h => GC.eq ?_, fun h => ?_⟩
  · simp at h; simp [leftI]; omega
  simp at h
  refine loopN xs.length (fun k σ m' => m' = m ∧ (σ 0 = some (.slice a xs.length xs.length) ∧ σ 1 = some (.int .i64 (b - xs.length - sumLy (xs.take k))) ∧ σ 5 = some (.int .i64 k)) ∧ 0 ≤ b - xs.length - (sumLy (xs.take k) : Int)) ⟨rfl, by simp [sumLy], by simp [sumLy]; omega⟩ ?_
  rintro k σ m' hk ⟨rfl, ⟨s0, s1, s5⟩, hpos⟩
  by_cases hlt : k < xs.length
  · obtain ⟨id, off, o, rfl, hm, hkd, hsz, hl, hrow, _⟩ := RL.at_ hr hlt
    have hw : IntKind.i64.wrap ((k : Int) + 1) = k + 1 := wrapI (by omega) (by omega)
    have hss := sumLy_succ hlt
    have htk := sumLy_take xs (k + 1)
    simp -dsimp -implicitDefEqProofs [s0, s1, s5, hlt, withO_of hm, hkd, hsz, hl, hrow, hw]
    refine callsTo Tryd.cal101 (szLayer_c xs[k] _ _ (hn' _ (List.getElem_mem hlt)) ⟨hpos, by omega⟩) ?_
    simp -dsimp -implicitDefEqProofs [s0, s1, s5, hlt, withO_of hm, hkd, hsz, hl, hrow, hw]
    refine ⟨fun g => GC.eq ?_, fun g => ?_⟩
    · have := (leftI_neg g).2
      have : b - ((xs.length + sumLy xs : Nat) : Int) < 0 := by omega
      rw [leftI, if_pos this]
    · obtain ⟨g1, g2⟩ := leftI_ok g
      refine next_ hlt ⟨rfl, ⟨by simp [s0], by simp [g2, hss]; omega, by simp [hw]⟩, by rw [hss]; omega⟩
  · simp -dsimp -implicitDefEqProofs [s0, s1, s5, hlt]
    rw [List.take_of_length_le (by omega)] at hpos ⊢
    have : ¬ (b - ((xs.length + sumLy xs : Nat) : Int) < 0) := by omega
    exact GC.eq (by simp only [leftI, this, if_false]; congr 1; omega)
theorem toLayer_c (p : LyT) (m : Mem) : ACalls Tryd.prog 106 [.agg (vl p).toArray] m (.agg (vl p).toArray) m := by
  refine acalls_of_vc Tryd.func106 rfl Tryd.fol (by kernel_rfl) ?_
  simp only [Tryd.f106, vl]
  simp -dsimp -implicitDefEqProofs
  exact GC.dropEq rfl rfl
theorem toLayerS_c (xs : List LyT) (a : Option Addr) (m : Mem) (hr : RdG vl 2 m a xs) (hn : xs.length ≤ 1048576) :
    ACalls Tryd.prog 58 [.slice a xs.length xs.length] m (.slice (some ⟨m.length, 0, none⟩) xs.length xs.length) (m ++ [⟨(xs.map vl).flatten, 56, 2, 1⟩]) := by
  have hg : ∀ x, (vl x).length = 2 := fun _ => rfl
  have hz : [Value.string ⟨#[]⟩, .int .i64 0].length = 2 := rfl
  refine acalls_of_vc Tryd.func58 rfl Tryd.fol (by kernel_rfl) ?_
  simp only [Tryd.f58]
  simp -dsimp -implicitDefEqProofs
  refine need_intro (by omega) ?_
  refine loopN xs.length (fun k σ m' => m' = m ++ [⟨partCells vl [.string ⟨#[]⟩, .int .i64 0] xs k, 56, 2, 1⟩] ∧ σ 0 = some (.slice a xs.length xs.length) ∧
      σ 3 = some (.slice (some ⟨m.length, 0, none⟩) xs.length xs.length) ∧ σ 4 = some (.int .i64 k)) ⟨?_, by simp⟩ ?_
  · exact congrArg (fun c => m ++ [(⟨c, _, 2, 1⟩ : AObj)]) (partCells_zero vl #[.string ⟨#[]⟩, .int .i64 0] xs (by simp))
  rintro k σ m' hk ⟨rfl, s0, s3, s4⟩
  by_cases hlt : k < xs.length
  · obtain ⟨id, off, o, rfl, hm, hkd, hsz, hl, hrow, _⟩ := RL.at_ hr hlt
    have hw : IntKind.i64.wrap ((k : Int) + 1) = k + 1 := wrapI (by omega) (by omega)
    simp -dsimp -implicitDefEqProofs [s0, s3, s4, hlt, fun l => withO_of (get_old (l := l) hm), hkd, hsz, hl, hrow]
    refine callsTo Tryd.cal106 (toLayer_c _ _) ?_
    simp -dsimp -implicitDefEqProofs [s0, s3, s4, hlt, fun l => withO_of (get_old (l := l) hm), hkd, hsz, hl, hrow]
    simp -dsimp -implicitDefEqProofs [s0, s3, s4, hlt, fun l => withO_of (get_old (l := l) hm), hkd, hsz, hl, hrow, hg, partCells_length hg hz xs hk, partCells_set hg hz xs hlt, hw]
    refine need_intro (by omega) ?_
    exact next_ hlt ⟨rfl, by simp [s0, s3, hw]⟩
  · simp -dsimp -implicitDefEqProofs [s0, s3, s4, hlt]
    obtain rfl : k = xs.length := by omega
    rw [partCells_all]
    exact GC.refl _ _ _
theorem eqLayer_c (p q : LyT) (m : Mem) : ACalls Tryd.prog 111 [.agg (vl p).toArray, .agg (vl q).toArray] m (.bool (decide (p = q))) m := by
  refine acalls_of_vc Tryd.func111 rfl Tryd.fol (by kernel_rfl) ?_
  simp only [Tryd.f111, vl]
  simp -dsimp -implicitDefEqProofs [bytes_beq]
  refine ⟨fun h => GC.dropEq ?_ rfl, fun h => ⟨fun h' => GC.dropEq ?_ rfl, fun h' => GC.dropEq ?_ rfl⟩⟩
  · simp at h; simp [Prod.ext_iff, h]
  · simp at h h'; simp [Prod.ext_iff, h']
  · simp at h h'; simp [Prod.ext_iff, h, h']
theorem eqLayerS_c (xs ys : List LyT) (a b : Option Addr) (m : Mem) (hr : RdG vl 2 m a xs) (hs : RdG vl 2 m b ys) (hn : xs.length ≤ 1048576) :
    ACalls Tryd.prog 61 [.slice a xs.length xs.length, .slice b ys.length ys.length] m (.bool (decide (xs = ys))) m := by
  refine acalls_of_vc Tryd.func61 rfl Tryd.fol (by kernel_rfl) ?_
  simp only [Tryd.f61]
  simp -dsimp -implicitDefEqProofs
  refine ⟨fun h => GC.eq ?_, fun h => ?_⟩
  · have : xs ≠ ys := by rintro rfl; simp at h
    simp [this]
  have hxy : xs.length = ys.length := by simp at h; omega
  refine loopN xs.length (fun k σ m' => m' = m ∧ (σ 0 = some (.slice a xs.length xs.length) ∧ σ 1 = some (.slice b ys.length ys.length) ∧ σ 5 = some (.int .i64 k)) ∧ xs.take k = ys.take k) ⟨rfl, by simp, by simp⟩ ?_
  rintro k σ m' hk ⟨rfl, ⟨s0, s1, s5⟩, ht⟩
  by_cases hlt : k < xs.length
  · have hlt' : k < ys.length := by omega
    obtain ⟨id, off, o, rfl, hm, hkd, hsz, hl, hrow, _⟩ := RL.at_ hr hlt
    obtain ⟨id', off', o', rfl, hm', hkd', hsz', hl', hrow', _⟩ := RL.at_ hs hlt'
    have hw : IntKind.i64.wrap ((k : Int) + 1) = k + 1 := wrapI (by omega) (by omega)
    simp -dsimp -implicitDefEqProofs [s0, s1, s5, hlt, hlt', withO_of hm, hkd, hsz, hl, hrow, withO_of hm', hkd', hsz', hl', hrow', hw]
    refine callsTo Tryd.cal111 (eqLayer_c _ _ _) ?_
    simp -dsimp -implicitDefEqProofs [s0, s1, s5, hlt, hlt', withO_of hm, hkd, hsz, hl, hrow, withO_of hm', hkd', hsz', hl', hrow', hw]
    refine ⟨fun g => GC.eq ?_, fun g => ?_⟩
    · have : xs ≠ ys := by rintro rfl; simp at g
      simp [this]
    · exact next_ hlt ⟨rfl, by simp [s0, s1, hw], take_succ_eq hlt hlt' ht (by simpa using g)⟩
  · simp -dsimp -implicitDefEqProofs [s0, s1, s5, hlt]
    refine GC.eq ?_
    rw [List.take_of_length_le (by omega), List.take_of_length_le (by omega)] at ht
    simp [ht]


/-! ### Baskets -/
/-- A basket's cells. -/
def bkC (st : Int) (a : Option Addr) (n : Nat) (b : ByteArray) : List Value := [.int .i64 st, .slice a n n, .string b]
theorem szBasket_c (st : Int) (xs : List LyT) (a : Option Addr) (b : ByteArray) (l : Int) (m : Mem) (hr : RdG vl 2 m a xs) (hn : xs.length ≤ maxLen) (hn' : ∀ x ∈ xs, x.1.size ≤ maxLen) (hb : b.size ≤ maxLen) (hl : 0 ≤ l ∧ l ≤ 1048576) :
    ACalls Tryd.prog 8 [.agg (bkC st a xs.length b).toArray, .int .i64 l] m (.int .i64 (leftI (xs.length + sumLy xs + b.size) l)) m := by
  refine acalls_of_vc Tryd.func8 rfl Tryd.fol (by kernel_rfl) ?_
  simp only [Tryd.f8, bkC]
  simp -dsimp -implicitDefEqProofs
  refine callsTo Tryd.cal55 (szLayerS_c xs a l _ (hr.ext _) hn hn' hl) ?_
  simp -dsimp -implicitDefEqProofs
  refine ⟨fun g => ?_, fun g => ?_⟩
  · have := (leftI_neg g).2
    refine GC.dropEq ?_ rfl
    have : l - ((xs.length + sumLy xs + b.size : Nat) : Int) < 0 := by omega
    rw [leftI, if_pos this]
  · obtain ⟨g1, g2⟩ := leftI_ok g
    have hb' : b.size ≤ 9223372036854775807 := hb
    rw [g2, wrapI (by omega) (by omega)]
    refine ⟨fun h => GC.dropEq ?_ rfl, fun h => GC.dropEq ?_ rfl⟩ <;> simp at h <;> simp [leftI]
    · omega
    · omega
/-- What a copy of a basket is: its layers are of its own. -/
def BkNew (st : Int) (xs : List LyT) (b : ByteArray) (m : Mem) (v : Value) (m' : Mem) : Prop :=
  ∃ j, v = .agg (bkC st (some ⟨j, 0, none⟩) xs.length b).toArray ∧ m <+: m' ∧ m.length ≤ j ∧ m'[j]? = some ⟨(xs.map vl).flatten, 56, 2, 1⟩
theorem toBasket_c (st : Int) (xs : List LyT) (a : Option Addr) (b : ByteArray) (m : Mem) (hr : RdG vl 2 m a xs) (hn : xs.length ≤ 1048576) :
    ∃ v m', ACalls Tryd.prog 10 [.agg (bkC st a xs.length b).toArray] m v m' ∧ BkNew st xs b m v m' := by
  refine ecalls_of_vc Tryd.func10 rfl Tryd.fol (by kernel_rfl) ?_
  simp only [Tryd.f10, bkC]
  simp -dsimp -implicitDefEqProofs
  refine callsTo Tryd.cal58 (toLayerS_c xs a _ (hr.ext _) hn) ?_
  simp -dsimp -implicitDefEqProofs
  exact ⟨_, _, GC.refl _ _ _, m.length + 3, rfl, pre_app (pre_refl m) _, by omega, by simp⟩
theorem eqBasket_c (st st' : Int) (xs ys : List LyT) (a a' : Option Addr) (b b' : ByteArray) (m : Mem) (hr : RdG vl 2 m a xs) (hr' : RdG vl 2 m a' ys) (hn : xs.length ≤ 1048576) :
    ACalls Tryd.prog 12 [.agg (bkC st a xs.length b).toArray, .agg (bkC st' a' ys.length b').toArray] m (.bool (decide (st = st' ∧ xs = ys ∧ b = b'))) m := by
  refine acalls_of_vc Tryd.func12 rfl Tryd.fol (by kernel_rfl) ?_
  simp only [Tryd.f12, bkC]
  simp -dsimp -implicitDefEqProofs [bytes_beq]
  refine ⟨fun g => GC.dropEq (by simp at g; simp [g]) rfl, fun g => ?_⟩
  refine callsTo Tryd.cal61 (eqLayerS_c xs ys a a' _ (hr.ext _) (hr'.ext _) hn) ?_
  simp -dsimp -implicitDefEqProofs [bytes_beq]
  refine ⟨fun g2 => GC.dropEq (by simp at g2; simp [g2]) rfl, fun g2 => ⟨fun g3 => GC.dropEq (by simp at g3; simp [g3]) rfl, fun g3 => GC.dropEq (by simp at g g2 g3; simp [g, g2, g3]) rfl⟩⟩
end Go.Proofs.YtmbijgnmbapchaaDoor
