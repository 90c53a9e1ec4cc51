/-
  Heaps, part 1: names, and the contracts of what copies and compares rows of heaps. Conditions: none.
-/
import Derived.Test.YtlcefchlmdffeaaBase
import Derived.Test.YtlcefchlmdffeaaAbsStr
import Derived.Test.YtlcefchlmdffeaaProg
import Derived.WalkKit
set_option linter.unusedSimpArgs false
set_option linter.unusedVariables false
set_option linter.unusedSectionVars false
namespace Go.Proofs.Ytlcefchlmdffeaa
open Go.Abs Go.RowKit

/-! ### Rows -/
theorem leftI_neg {n : Nat} {b : Int} (h : decide (leftI n b < 0) = true) : leftI n b = -1 ∧ b - n < 0 := by
  simp only [decide_eq_true_eq] at h
  unfold leftI at h ⊢
  split at h <;> split <;> omega
theorem szHeap_c (p : H3) (b : Int) (m : Mem) (hn : p.1.size ≤ maxLen) (hb : 0 ≤ b ∧ b ≤ 1048576) : ACalls Try.prog 18 [.agg (vh p).toArray, .int .i64 b] m (.int .i64 (leftI p.1.size b)) m := by
  refine acalls_of_vc Try.func18 rfl Try.fol (by kernel_rfl) ?_
  simp only [Try.f18, vh]
  simp -dsimp -implicitDefEqProofs
  have : p.1.size ≤ 9223372036854775807 := hn
  rw [wrapI (by omega) (by omega)]
  refine ⟨fun h => GC.dropEq ?_ rfl, fun h => GC.dropEq ?_ rfl⟩ <;> simp at h <;> simp [leftI]
  · omega
  · omega
theorem szHeapS_c (xs : List H3) (a : Option Addr) (b : Int) (m : Mem) (hr : RdG vh 3 m a xs) (hn : xs.length ≤ maxLen) (hn' : ∀ x ∈ xs, x.1.size ≤ maxLen) (hb : 0 ≤ b ∧ b ≤ 1048576) :
    ACalls Try.prog 7 [.slice a xs.length xs.length, .int .i64 b] m (.int .i64 (leftI (xs.length + sumStr xs) b)) m := by
  have hmx : xs.length ≤ 9223372036854775807 := hn
  have hw0 : IntKind.i64.wrap (b - (xs.length : Int)) = b - xs.length := wrapI (by omega) (by omega)
  refine acalls_of_vc Try.func7 rfl Try.fol (by kernel_rfl) ?_
  simp only [Try.f7]
  simp -dsimp -implicitDefEqProofs [hw0]
  refine ⟨fun h => GC.eq ?_, fun h => ?_⟩
  · simp at h; simp [leftI]; omega
  simp at h
  refine loopN xs.length (fun k σ m' => m' = m ∧ (σ 0 = some (.slice a xs.length xs.length) ∧ σ 1 = some (.int .i64 (b - xs.length - sumStr (xs.take k))) ∧ σ 5 = some (.int .i64 k)) ∧ 0 ≤ b - xs.length - (sumStr (xs.take k) : Int)) ⟨rfl, by simp [sumStr], by simp [sumStr]; omega⟩ ?_
  rintro k σ m' hk ⟨rfl, ⟨s0, s1, s5⟩, hpos⟩
  by_cases hlt : k < xs.length
  · obtain ⟨id, off, o, rfl, hm, hkd, hsz, hl, hrow, _⟩ := RH.at_ hr hlt
    have hw : IntKind.i64.wrap ((k : Int) + 1) = k + 1 := wrapI (by omega) (by omega)
    have hss := sumStr_succ hlt
    have htk := sumStr_take xs (k + 1)
    simp -dsimp -implicitDefEqProofs [s0, s1, s5, hlt, withO_of hm, hkd, hsz, hl, hrow, hw]
    refine callsTo Try.cal18 (szHeap_c xs[k] _ _ (hn' _ (List.getElem_mem hlt)) ⟨hpos, by omega⟩) ?_
    simp -dsimp -implicitDefEqProofs [s0, s1, s5, hlt, withO_of hm, hkd, hsz, hl, hrow, hw]
    refine ⟨fun g => GC.eq ?_, fun g => ?_⟩
    · have := (leftI_neg g).2
      have : b - ((xs.length + sumStr xs : Nat) : Int) < 0 := by omega
      rw [leftI, if_pos this]
    · obtain ⟨g1, g2⟩ := leftI_ok g
      refine next_ hlt ⟨rfl, ⟨by simp [s0], by simp [g2, hss]; omega, by simp [hw]⟩, by rw [hss]; omega⟩
  · simp -dsimp -implicitDefEqProofs [s0, s1, s5, hlt]
    rw [List.take_of_length_le (by omega)] at hpos ⊢
    have : ¬ (b - ((xs.length + sumStr xs : Nat) : Int) < 0) := by omega
    exact GC.eq (by simp only [leftI, this, if_false]; congr 1; omega)
theorem toHeap_c (p : H3) (m : Mem) : ACalls Try.prog 19 [.agg (vh p).toArray] m (.agg (vh p).toArray) m := by
  refine acalls_of_vc Try.func19 rfl Try.fol (by kernel_rfl) ?_
  simp only [Try.f19, vh]
  simp -dsimp -implicitDefEqProofs
  exact GC.dropEq rfl rfl
theorem toHeapS_c (xs : List H3) (a : Option Addr) (m : Mem) (hr : RdG vh 3 m a xs) (hn : xs.length ≤ 1048576) :
    ACalls Try.prog 9 [.slice a xs.length xs.length] m (.slice (some ⟨m.length, 0, none⟩) xs.length xs.length) (m ++ [⟨(xs.map vh).flatten, 36, 3, 1⟩]) := by
  have hg : ∀ x, (vh x).length = 3 := fun _ => rfl
  have hz : [Value.string ⟨#[]⟩, .int .i64 0, .int .i64 0].length = 3 := rfl
  refine acalls_of_vc Try.func9 rfl Try.fol (by kernel_rfl) ?_
  simp only [Try.f9]
  simp -dsimp -implicitDefEqProofs
  refine need_intro (by omega) ?_
  refine loopN xs.length (fun k σ m' => m' = m ++ [⟨partCells vh [.string ⟨#[]⟩, .int .i64 0, .int .i64 0] xs k, 36, 3, 1⟩] ∧ σ 0 = some (.slice a xs.length xs.length) ∧
      σ 3 = some (.slice (some ⟨m.length, 0, none⟩) xs.length xs.length) ∧ σ 4 = some (.int .i64 k)) ⟨?_, by simp⟩ ?_
  · exact congrArg (fun c => m ++ [(⟨c, _, 3, 1⟩ : AObj)]) (partCells_zero vh #[.string ⟨#[]⟩, .int .i64 0, .int .i64 0] xs (by simp))
  rintro k σ m' hk ⟨rfl, s0, s3, s4⟩
  by_cases hlt : k < xs.length
  · obtain ⟨id, off, o, rfl, hm, hkd, hsz, hl, hrow, _⟩ := RH.at_ hr hlt
    have hw : IntKind.i64.wrap ((k : Int) + 1) = k + 1 := wrapI (by omega) (by omega)
    simp -dsimp -implicitDefEqProofs [s0, s3, s4, hlt, fun l => withO_of (get_old (l := l) hm), hkd, hsz, hl, hrow]
    refine callsTo Try.cal19 (toHeap_c _ _) ?_
    simp -dsimp -implicitDefEqProofs [s0, s3, s4, hlt, fun l => withO_of (get_old (l := l) hm), hkd, hsz, hl, hrow]
    simp -dsimp -implicitDefEqProofs [s0, s3, s4, hlt, fun l => withO_of (get_old (l := l) hm), hkd, hsz, hl, hrow, hg, partCells_length hg hz xs hk, partCells_set hg hz xs hlt, hw]
    refine need_intro (by omega) ?_
    exact next_ hlt ⟨rfl, by simp [s0, s3, hw]⟩
  · simp -dsimp -implicitDefEqProofs [s0, s3, s4, hlt]
    obtain rfl : k = xs.length := by omega
    rw [partCells_all]
    exact GC.refl _ _ _
theorem eqHeap_c (p q : H3) (m : Mem) : ACalls Try.prog 21 [.agg (vh p).toArray, .agg (vh q).toArray] m (.bool (decide (p = q))) m := by
  refine acalls_of_vc Try.func21 rfl Try.fol (by kernel_rfl) ?_
  simp only [Try.f21, vh]
  simp -dsimp -implicitDefEqProofs [bytes_beq]
  refine ⟨fun h => GC.dropEq ?_ rfl, fun h => ⟨fun h' => GC.dropEq ?_ rfl, fun h' => ⟨fun h'' => GC.dropEq ?_ rfl, fun h'' => GC.dropEq ?_ rfl⟩⟩⟩
  · simp at h; simp [Prod.ext_iff, h]
  · simp at h h'; simp [Prod.ext_iff, h']
  · simp at h h' h''; simp [Prod.ext_iff, h'']
  · simp at h h' h''; simp [Prod.ext_iff, h, h', h'']
theorem eqHeapS_c (xs ys : List H3) (a b : Option Addr) (m : Mem) (hr : RdG vh 3 m a xs) (hs : RdG vh 3 m b ys) (hn : xs.length ≤ 1048576) :
    ACalls Try.prog 11 [.slice a xs.length xs.length, .slice b ys.length ys.length] m (.bool (decide (xs = ys))) m := by
  refine acalls_of_vc Try.func11 rfl Try.fol (by kernel_rfl) ?_
  simp only [Try.f11]
  simp -dsimp -implicitDefEqProofs
  refine ⟨fun h => GC.eq ?_, fun h => ?_⟩
  · have : xs ≠ ys := by rintro rfl; simp at h
    simp [this]
  have hxy : xs.length = ys.length := by simp at h; omega
  refine loopN xs.length (fun k σ m' => m' = m ∧ (σ 0 = some (.slice a xs.length xs.length) ∧ σ 1 = some (.slice b ys.length ys.length) ∧ σ 5 = some (.int .i64 k)) ∧ xs.take k = ys.take k) ⟨rfl, by simp, by simp⟩ ?_
  rintro k σ m' hk ⟨rfl, ⟨s0, s1, s5⟩, ht⟩
  by_cases hlt : k < xs.length
  · have hlt' : k < ys.length := by omega
    obtain ⟨id, off, o, rfl, hm, hkd, hsz, hl, hrow, _⟩ := RH.at_ hr hlt
    obtain ⟨id', off', o', rfl, hm', hkd', hsz', hl', hrow', _⟩ := RH.at_ hs hlt'
    have hw : IntKind.i64.wrap ((k : Int) + 1) = k + 1 := wrapI (by omega) (by omega)
    simp -dsimp -implicitDefEqProofs [s0, s1, s5, hlt, hlt', withO_of hm, hkd, hsz, hl, hrow, withO_of hm', hkd', hsz', hl', hrow', hw]
    refine callsTo Try.cal21 (eqHeap_c _ _ _) ?_
    simp -dsimp -implicitDefEqProofs [s0, s1, s5, hlt, hlt', withO_of hm, hkd, hsz, hl, hrow, withO_of hm', hkd', hsz', hl', hrow', hw]
    refine ⟨fun g => GC.eq ?_, fun g => ?_⟩
    · have : xs ≠ ys := by rintro rfl; simp at g
      simp [this]
    · exact next_ hlt ⟨rfl, by simp [s0, s1, hw], take_succ_eq hlt hlt' ht (by simpa using g)⟩
  · simp -dsimp -implicitDefEqProofs [s0, s1, s5, hlt]
    refine GC.eq ?_
    rw [List.take_of_length_le (by omega), List.take_of_length_le (by omega)] at ht
    simp [ht]

/-! ### Names -/
def smallN (n : Nat) : Bool := decide (97 ≤ n) && decide (n ≤ 122)
def digitN (n : Nat) : Bool := decide (48 ≤ n) && decide (n ≤ 57)
def nameAt (l : List UInt8) (i : Nat) : Bool := smallN (l.getD i 0).toNat || (decide (i ≠ 0) && (digitN (l.getD i 0).toNat || decide ((l.getD i 0).toNat = 45)))
def nameB (s : ByteArray) : Bool := decide (1 ≤ s.size) && decide (s.size ≤ 12) && (List.range s.size).all (nameAt s.data.toList)
theorem l01Small_c (n : Nat) (m : Mem) : ACalls Try.prog 37 [.int .u8 n] m (.bool (smallN n)) m := by
  refine acalls_of_vc Try.func37 rfl Try.fol (by kernel_rfl) ?_
  simp only [Try.f37]
  simp -dsimp -implicitDefEqProofs
  refine ⟨fun h => GC.eq ?_, fun h => GC.eq ?_⟩
  · simp at h
    have h1 : 97 ≤ n := by omega
    by_cases h2 : n ≤ 122
    · have h3 : (n : Int) ≤ 122 := by omega
      simp [smallN, h1, h2, h3]
    · have h3 : ¬ (n : Int) ≤ 122 := by omega
      simp [smallN, h2, h3]
  · simp at h
    have h1 : ¬ 97 ≤ n := by omega
    simp [smallN, h1]
theorem l01Digit_c (n : Nat) (m : Mem) : ACalls Try.prog 38 [.int .u8 n] m (.bool (digitN n)) m := by
  refine acalls_of_vc Try.func38 rfl Try.fol (by kernel_rfl) ?_
  simp only [Try.f38]
  simp -dsimp -implicitDefEqProofs
  refine ⟨fun h => GC.eq ?_, fun h => GC.eq ?_⟩
  · simp at h
    have h1 : 48 ≤ n := by omega
    by_cases h2 : n ≤ 57
    · have h3 : (n : Int) ≤ 57 := by omega
      simp [digitN, h1, h2, h3]
    · have h3 : ¬ (n : Int) ≤ 57 := by omega
      simp [digitN, h2, h3]
  · simp at h
    have h1 : ¬ 48 ≤ n := by omega
    simp [digitN, h1]
theorem nameB_false {s : ByteArray} {k : Nat} (h : k < s.size) (h' : nameAt s.data.toList k = false) : nameB s = false := by simp [nameB, allTo_false h h']
theorem specName_c (s : ByteArray) (m : Mem) (hs : s.size ≤ maxLen) : ACalls Try.prog 34 [.string s] m (.bool (nameB s)) m := by
  have hmx : s.size ≤ 9223372036854775807 := hs
  by_cases h0 : s = ByteArray.empty
  · subst h0
    refine acalls_of_vc Try.func34 rfl Try.fol (by kernel_rfl) ?_
    simp only [Try.f34]
    simp -dsimp -implicitDefEqProofs
    exact GC.eq rfl
  have h0' : ¬ s.size = 0 := fun h => h0 (by rw [isEmptyE]; exact h)
  have hem : s.toList.isEmpty = false := by rw [emptyE]; simp [h0']
  refine acalls_of_vc Try.func34 rfl Try.fol (by kernel_rfl) ?_
  simp only [Try.f34]
  simp -dsimp -implicitDefEqProofs [h0, hem]
  by_cases h12 : 12 < s.size
  · have d1 : (12 : Int) < s.size := by omega
    simp -dsimp -implicitDefEqProofs [h0, hem, d1]
    exact GC.eq (by simp [nameB, show ¬ s.size ≤ 12 by omega])
  have d1 : ¬ (12 : Int) < s.size := by omega
  have hpos : 0 < s.size := by omega
  obtain ⟨c0, hb0⟩ : ∃ c, s.data[0]'hpos = c := ⟨_, rfl⟩
  have hD0 := (byteC hpos).trans hb0
  simp -dsimp -implicitDefEqProofs [h0, hem, d1, hpos, hb0]
  refine callsTo Try.cal37 (l01Small_c _ _) ?_
  simp -dsimp -implicitDefEqProofs [h0, hem, d1, hpos, hb0]
  cases g1 : smallN c0.toNat with
  | false =>
    simp -dsimp -implicitDefEqProofs [h0, hem, d1, hpos, hb0]
    have : nameAt s.data.toList 0 = false := by simp only [nameAt, hD0, g1]; rfl
    exact GC.eq (by rw [nameB_false hpos this])
  | true =>
  simp -dsimp -implicitDefEqProofs [h0, hem, d1, hpos, hb0]
  refine loopN s.size (fun k σ m' => m' = m ∧ (σ 0 = some (.string s) ∧ σ 3 = some (.int .i64 k)) ∧ (List.range k).all (nameAt s.data.toList) = true) ⟨rfl, by simp, by simp⟩ ?_
  rintro k σ m' hk ⟨rfl, ⟨s0, s3⟩, hok⟩
  by_cases hlt : k < s.size
  · obtain ⟨c, hb⟩ : ∃ c, s.data[k]'hlt = c := ⟨_, rfl⟩
    have hD := (byteC hlt).trans hb
    have hw : IntKind.i64.wrap ((k : Int) + 1) = k + 1 := wrapI (by omega) (by omega)
    simp -dsimp -implicitDefEqProofs [s0, s3, hlt, hb, hw]
    refine callsTo Try.cal37 (l01Small_c _ _) ?_
    simp -dsimp -implicitDefEqProofs [s0, s3, hlt, hb, hw]
    cases g2 : smallN c.toNat with
    | true =>
      simp -dsimp -implicitDefEqProofs [s0, s3, hlt, hb, hw]
      exact next_ hlt ⟨rfl, by simp [s0, hw], allTo_succ hok (by simp only [nameAt, hD, g2]; rfl)⟩
    | false =>
      have hk0 : k ≠ 0 := by
        rintro rfl
        have : c = c0 := hb.symm.trans hb0
        rw [this, g1] at g2; cases g2
      simp -dsimp -implicitDefEqProofs [s0, s3, hlt, hb, hw]
      refine callsTo Try.cal38 (l01Digit_c _ _) ?_
      simp -dsimp -implicitDefEqProofs [s0, s3, hlt, hb, hw]
      cases g3 : digitN c.toNat with
      | true =>
        simp -dsimp -implicitDefEqProofs [s0, s3, hlt, hb, hw]
        exact next_ hlt ⟨rfl, by simp [s0, hw], allTo_succ hok (by simp only [nameAt, hD, g2, g3]; simp [hk0])⟩
      | false =>
        simp -dsimp -implicitDefEqProofs [s0, s3, hlt, hb, hw]
        refine ⟨fun g => GC.eq ?_, fun g => next_ hlt ⟨rfl, by simp [s0, hw], allTo_succ hok ?_⟩⟩
        · have : nameAt s.data.toList k = false := by simp only [nameAt, hD, g2, g3]; simp at g; simp; intro _; omega
          rw [nameB_false hlt this]
        · simp only [nameAt, hD, g2, g3]; simp at g; simp [hk0]; omega
  · simp -dsimp -implicitDefEqProofs [s0, s3, hlt]
    obtain rfl : k = s.size := by omega
    exact GC.eq (by simp [nameB, hok]; omega)
theorem implName_c (s : ByteArray) (m : Mem) (hs : s.size ≤ maxLen) : ACalls Try.prog 26 [.string s] m (.bool (nameB s)) m := by
  have hmx : s.size ≤ 9223372036854775807 := hs
  refine acalls_of_vc Try.func26 rfl Try.fol (by kernel_rfl) ?_
  simp only [Try.f26]
  simp -dsimp -implicitDefEqProofs
  by_cases h0 : s.size < 1
  · have d0 : (s.size : Int) < 1 := by omega
    simp -dsimp -implicitDefEqProofs [d0]
    exact GC.eq (by simp [nameB, show ¬ 1 ≤ s.size by omega])
  have d0 : ¬ (s.size : Int) < 1 := by omega
  by_cases h12 : 12 < s.size
  · have d1 : (12 : Int) < s.size := by omega
    simp -dsimp -implicitDefEqProofs [d0, d1]
    exact GC.eq (by simp [nameB, show ¬ s.size ≤ 12 by omega])
  have d1 : ¬ (12 : Int) < s.size := by omega
  simp -dsimp -implicitDefEqProofs [d0, d1]
  refine loopN s.size (fun k σ m' => m' = m ∧ (σ 0 = some (.string s) ∧ σ 3 = some (.int .i64 k)) ∧ (List.range k).all (nameAt s.data.toList) = true) ⟨rfl, by simp, by simp⟩ ?_
  rintro k σ m' hk ⟨rfl, ⟨s0, s3⟩, hok⟩
  by_cases hlt : k < s.size
  · obtain ⟨c, hb⟩ : ∃ c, s.data[k]'hlt = c := ⟨_, rfl⟩
    have hD := (byteC hlt).trans hb
    have hw : IntKind.i64.wrap ((k : Int) + 1) = k + 1 := wrapI (by omega) (by omega)
    have hat : nameAt s.data.toList k = (smallN c.toNat || (decide (k ≠ 0) && (digitN c.toNat || decide (c.toNat = 45)))) := by simp only [nameAt, hD]
    have hno : nameAt s.data.toList k = false → nameB s = false := nameB_false hlt
    have hyes : nameAt s.data.toList k = true → (List.range (k + 1)).all (nameAt s.data.toList) = true := allTo_succ hok
    rw [hat] at hno hyes
    simp -dsimp -implicitDefEqProofs [d0, d1, s0, s3, hlt, hb, hw]
    repeat' (refine sp2 (fun _ => ?_) (fun _ => ?_))
    all_goals first
      | exact next_ hlt ⟨rfl, by simp [s0, hw], hyes (by simp_all [smallN, digitN] <;> omega)⟩
      | exact GC.eq (congrArg Value.bool (hno (by simp_all [smallN, digitN] <;> omega)).symm)
  · simp -dsimp -implicitDefEqProofs [s0, s3, hlt]
    obtain rfl : k = s.size := by omega
    exact GC.eq (by simp [nameB, hok]; omega)
end Go.Proofs.Ytlcefchlmdffeaa
