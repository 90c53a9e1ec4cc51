/-
  Markets: the contracts of what counts, copies and compares them. Conditions: none.
-/
import Derived.Test.YtciekhcdkfhcoaaBaseSS
import Derived.Test.YtciekhcdkfhcoaaAbsMkt
set_option linter.unusedSimpArgs false
set_option linter.unusedVariables false
set_option linter.unusedSectionVars false
namespace Go.Proofs.Ytciekhcdkfhcoaa
open Go.Abs Go.RowKit

theorem szMarket_c (x : Mk) (ad bd : Option Addr) (b : Int) (m : Mem) (h1 : x.2.2.1.length ≤ maxLen) (h2 : x.2.2.2.length ≤ maxLen) (hb : 0 ≤ b ∧ b ≤ 1048576) :
    ACalls Try.prog 18 [.agg (mkRow4 x ad bd).toArray, .int .i64 b] m (.int .i64 (leftI (x.2.2.1.length + x.2.2.2.length) b)) m := by
  refine acalls_of_vc Try.func18 rfl Try.fol (by kernel_rfl) ?_
  simp only [Try.f18, mkRow4]
  simp -dsimp -implicitDefEqProofs
  refine callsTo Try.cal52 (szInt64S_c ad _ _ _ h1 hb) ?_
  simp -dsimp -implicitDefEqProofs
  refine ⟨fun g => ?_, fun g => ?_⟩
  · obtain ⟨_, g2⟩ := leftI_neg g
    have : b - ((x.2.2.1.length + x.2.2.2.length : Nat) : Int) < 0 := by omega
    exact GC.dropEq (by rw [leftI, if_pos this]) rfl
  · obtain ⟨g1, g2⟩ := leftI_ok g
    rw [g2]
    refine callsTo Try.cal52 (szInt64S_c bd _ _ _ h2 ⟨by omega, by omega⟩) ?_
    simp -dsimp -implicitDefEqProofs
    refine ⟨fun g => ?_, fun g => ?_⟩
    · obtain ⟨_, g3⟩ := leftI_neg g
      have : b - ((x.2.2.1.length + x.2.2.2.length : Nat) : Int) < 0 := by omega
      exact GC.dropEq (by rw [leftI, if_pos this]) rfl
    · obtain ⟨g3, g4⟩ := leftI_ok g
      have : ¬ b - ((x.2.2.1.length + x.2.2.2.length : Nat) : Int) < 0 := by omega
      exact GC.dropEq (by rw [g4, leftI, if_neg this]; congr 1; omega) rfl
theorem szMarketS_c (xs : List Mk) (a : Option Addr) (b : Int) (m : Mem) (hr : RdM m a xs) (hn : xs.length ≤ maxLen) (hn' : ∀ x ∈ xs, x.2.2.1.length ≤ maxLen ∧ x.2.2.2.length ≤ maxLen) (hb : 0 ≤ b ∧ b ≤ 1048576) :
    ACalls Try.prog 13 [.slice a xs.length xs.length, .int .i64 b] m (.int .i64 (leftI (xs.length + sumMk xs) b)) m := by
  have hmx : xs.length ≤ 9223372036854775807 := hn
  have hw0 : IntKind.i64.wrap (b - (xs.length : Int)) = b - xs.length := wrapI (by omega) (by omega)
  refine acalls_of_vc Try.func13 rfl Try.fol (by kernel_rfl) ?_
  simp only [Try.f13]
  simp -dsimp -implicitDefEqProofs [hw0]
  refine ⟨fun h => GC.eq ?_, fun h => ?_⟩
  · simp at h; simp [leftI]; omega
  simp at h
  refine loopN xs.length (fun k σ m' => m' = m ∧ (σ 0 = some (.slice a xs.length xs.length) ∧ σ 1 = some (.int .i64 (b - xs.length - sumMk (xs.take k))) ∧ σ 5 = some (.int .i64 k)) ∧ 0 ≤ b - xs.length - (sumMk (xs.take k) : Int)) ⟨rfl, by simp [sumMk], by simp [sumMk]; omega⟩ ?_
  rintro k σ m' hk ⟨rfl, ⟨s0, s1, s5⟩, hpos⟩
  by_cases hlt : k < xs.length
  · obtain ⟨id, off, o, ad, bd, rfl, hm, hkd, hsz, hl, hrow, _⟩ := hr k hlt
    have hw : IntKind.i64.wrap ((k : Int) + 1) = k + 1 := wrapI (by omega) (by omega)
    have hss := sumMk_succ hlt
    have htk := sumMk_take xs (k + 1)
    have hle := hn' _ (List.getElem_mem hlt)
    simp -dsimp -implicitDefEqProofs [s0, s1, s5, hlt, withO_of hm, hkd, hsz, hl, hrow, hw]
    refine callsTo Try.cal18 (szMarket_c xs[k] ad bd _ _ hle.1 hle.2 ⟨hpos, by omega⟩) ?_
    simp -dsimp -implicitDefEqProofs [s0, s1, s5, hlt, withO_of hm, hkd, hsz, hl, hrow, hw]
    refine ⟨fun g => GC.eq ?_, fun g => ?_⟩
    · have := (leftI_neg g).2
      have : b - ((xs.length + sumMk xs : Nat) : Int) < 0 := by omega
      rw [leftI, if_pos this]
    · obtain ⟨g1, g2⟩ := leftI_ok g
      refine next_ hlt ⟨rfl, ⟨by simp [s0], by simp [g2, hss]; omega, by simp [hw]⟩, by rw [hss]; omega⟩
  · simp -dsimp -implicitDefEqProofs [s0, s1, s5, hlt]
    rw [List.take_of_length_le (by omega)] at hpos ⊢
    have : ¬ (b - ((xs.length + sumMk xs : Nat) : Int) < 0) := by omega
    exact GC.eq (by simp only [leftI, this, if_false]; congr 1; omega)
theorem toMarket_c (x : Mk) (ad bd : Option Addr) (m : Mem) (h1 : RdI m ad x.2.2.1) (h2 : RdI m bd x.2.2.2) (hn1 : x.2.2.1.length ≤ 1048576) (hn2 : x.2.2.2.length ≤ 1048576) :
    ∃ v m', ACalls Try.prog 20 [.agg (mkRow4 x ad bd).toArray] m v m' ∧ (∃ j1 j2, v = .agg (mkRow4 x (some ⟨j1, 0, none⟩) (some ⟨j2, 0, none⟩)).toArray ∧ m <+: m' ∧ m.length ≤ j1 ∧ m.length ≤ j2 ∧
      m'[j1]? = some ⟨x.2.2.1.map (Value.int .i64), 2, 1, 1⟩ ∧ m'[j2]? = some ⟨x.2.2.2.map (Value.int .i64), 2, 1, 1⟩) := by
  refine ecalls_of_vc Try.func20 rfl Try.fol (by kernel_rfl) ?_
  simp only [Try.f20, mkRow4]
  simp -dsimp -implicitDefEqProofs
  refine callsTo Try.cal21 (toInt64S_c x.2.2.1 ad _ (h1.ext _) hn1) ?_
  simp -dsimp -implicitDefEqProofs
  refine callsTo Try.cal21 (toInt64S_c x.2.2.2 bd _ (h2.ext _) hn2) ?_
  simp -dsimp -implicitDefEqProofs
  exact ⟨_, _, GC.refl _ _ _, m.length + 3, m.length + 4, rfl, pre_app (pre_refl m) _, by omega, by omega, by simp, by simp⟩
theorem toMarketS_c (xs : List Mk) (a : Option Addr) (m : Mem) (hr : RdM m a xs) (hn : xs.length ≤ 1048576) (hn' : ∀ x ∈ xs, x.2.2.1.length ≤ 1048576 ∧ x.2.2.2.length ≤ 1048576) :
    ∃ v m', ACalls Try.prog 15 [.slice a xs.length xs.length] m v m' ∧ (v = .slice (some ⟨m.length, 0, none⟩) xs.length xs.length ∧ m <+: m' ∧ OwnM m' m.length m.length 2 xs xs.length) := by
  refine ecalls_of_vc Try.func15 rfl Try.fol (by kernel_rfl) ?_
  simp only [Try.f15]
  simp -dsimp -implicitDefEqProofs
  refine need_intro (by omega) ?_
  refine loopN xs.length (fun k σ m' => m <+: m' ∧ OwnM m' m.length m.length 2 xs k ∧ σ 0 = some (.slice a xs.length xs.length) ∧ σ 3 = some (.slice (some ⟨m.length, 0, none⟩) xs.length xs.length) ∧ σ 4 = some (.int .i64 k)) ⟨pre_app (pre_refl m) _, ⟨_, by simp; rfl, Nat.le_refl _, ⟨rfl, rfl, by simp [madeCells]⟩, by simp⟩, by simp⟩ ?_
  rintro k σ m' hk ⟨hp, ⟨o0, ho, _, ⟨ok1, ok2, ok3⟩, hall⟩, s0, s3, s4⟩
  by_cases hlt : k < xs.length
  · obtain ⟨id, off, o, ad, bd, rfl, hm, hkd, hsz, hl, hrow, c0, c1, c2, c3, q1, q2⟩ := hr k hlt
    have hw : IntKind.i64.wrap ((k : Int) + 1) = k + 1 := wrapI (by omega) (by omega)
    have hm' := prefix_get hp hm
    have hml : m.length < m'.length := (List.getElem?_eq_some_iff.1 ho).1
    have hko : o0.kind ≤ 2 := by omega
    have hk1 : 1 ≤ o0.kind := by omega
    have hle := hn' _ (List.getElem_mem hlt)
    have hfit : k * 4 + 4 ≤ xs.length * 4 := by omega
    obtain ⟨v1, m1, hc, j1, j2, rfl, hp1, hj1, hj2, g1, g2⟩ := toMarket_c xs[k] ad bd m' (q1.pre' hp) (q2.pre' hp) hle.1 hle.2
    have ho1 := prefix_get hp1 ho
    simp -dsimp -implicitDefEqProofs [s0, s3, s4, hlt, withO_of hm', hkd, hsz, hl, hrow, hw, withO_of ho1, ok1, ok2, ok3, hfit, mkRow4]
    refine callsTo Try.cal20 (hc) ?_
    simp -dsimp -implicitDefEqProofs [s0, s3, s4, hlt, withO_of hm', hkd, hsz, hl, hrow, hw, withO_of ho1, ok1, ok2, ok3, hfit, mkRow4]
    have := hp.length_le
    exact next_ hlt ⟨pre_set (hp.trans hp1) (Nat.le_refl _) _, OwnM.step ho (Nat.le_refl _) ok3 hlt hall ok2 hp1 hj1 hj2 g1 g2 _, by simp [s0, s3, hw]⟩
  · simp -dsimp -implicitDefEqProofs [s0, s3, s4, hlt]
    obtain rfl : k = xs.length := by omega
    exact ⟨_, _, GC.refl _ _ _, rfl, hp, ⟨o0, ho, Nat.le_refl _, ⟨ok1, ok2, ok3⟩, hall⟩⟩
theorem eqMarket_c (x y : Mk) (ad bd ad' bd' : Option Addr) (m : Mem) (h1 : RdI m ad x.2.2.1) (h2 : RdI m bd x.2.2.2) (h3 : RdI m ad' y.2.2.1) (h4 : RdI m bd' y.2.2.2) (hn1 : x.2.2.1.length ≤ 1048576) (hn2 : x.2.2.2.length ≤ 1048576) :
    ACalls Try.prog 23 [.agg (mkRow4 x ad bd).toArray, .agg (mkRow4 y ad' bd').toArray] m (.bool (decide (x = y))) m := by
  obtain ⟨x1, x2, x3, x4⟩ := x
  obtain ⟨y1, y2, y3, y4⟩ := y
  simp only at h1 h2 h3 h4 hn1 hn2
  refine acalls_of_vc Try.func23 rfl Try.fol (by kernel_rfl) ?_
  simp only [Try.f23, mkRow4]
  simp -dsimp -implicitDefEqProofs
  refine ⟨fun g => GC.dropEq (by simp at g; simp [Prod.ext_iff, g]) rfl, fun g => ⟨fun g' => GC.dropEq (by simp at g'; simp [Prod.ext_iff, g']) rfl, fun g' => ?_⟩⟩
  refine callsTo Try.cal24 (eqInt64S_c x3 y3 _ _ _ (h1.ext _) (h3.ext _) hn1) ?_
  simp -dsimp -implicitDefEqProofs
  refine ⟨fun g2 => GC.dropEq (by simp at g2; simp [Prod.ext_iff, g2]) rfl, fun g2 => ?_⟩
  refine callsTo Try.cal24 (eqInt64S_c x4 y4 _ _ _ (h2.ext _) (h4.ext _) hn2) ?_
  simp -dsimp -implicitDefEqProofs
  refine ⟨fun g3 => GC.dropEq (by simp at g3; simp [Prod.ext_iff, g3]) rfl, fun g3 => GC.dropEq (by simp at g g' g2 g3; simp [Prod.ext_iff, g, g', g2, g3]) rfl⟩
theorem eqMarketS_c (xs ys : List Mk) (a b : Option Addr) (m : Mem) (hr : RdM m a xs) (hs : RdM m b ys) (hn : xs.length ≤ 1048576) (hn' : ∀ x ∈ xs, x.2.2.1.length ≤ 1048576 ∧ x.2.2.2.length ≤ 1048576) :
    ACalls Try.prog 17 [.slice a xs.length xs.length, .slice b ys.length ys.length] m (.bool (decide (xs = ys))) m := by
  refine acalls_of_vc Try.func17 rfl Try.fol (by kernel_rfl) ?_
  simp only [Try.f17]
  simp -dsimp -implicitDefEqProofs
  refine ⟨fun h => GC.eq ?_, fun h => ?_⟩
  · have : xs ≠ ys := by rintro rfl; simp at h
    simp [this]
  have hxy : xs.length = ys.length := by simp at h; omega
  refine loopN xs.length (fun k σ m' => m' = m ∧ (σ 0 = some (.slice a xs.length xs.length) ∧ σ 1 = some (.slice b ys.length ys.length) ∧ σ 5 = some (.int .i64 k)) ∧ xs.take k = ys.take k) ⟨rfl, by simp, by simp⟩ ?_
  rintro k σ m' hk ⟨rfl, ⟨s0, s1, s5⟩, ht⟩
  by_cases hlt : k < xs.length
  · have hlt' : k < ys.length := by omega
    obtain ⟨id, off, o, ad, bd, rfl, hm, hkd, hsz, hl, hrow, _, _, _, _, q1, q2⟩ := hr k hlt
    obtain ⟨id', off', o', ad', bd', rfl, hm', hkd', hsz', hl', hrow', _, _, _, _, q1', q2'⟩ := hs k hlt'
    have hw : IntKind.i64.wrap ((k : Int) + 1) = k + 1 := wrapI (by omega) (by omega)
    have hle := hn' _ (List.getElem_mem hlt)
    simp -dsimp -implicitDefEqProofs [s0, s1, s5, hlt, hlt', withO_of hm, hkd, hsz, hl, hrow, withO_of hm', hkd', hsz', hl', hrow', hw]
    refine callsTo Try.cal23 (eqMarket_c xs[k] ys[k] ad bd ad' bd' _ q1 q2 q1' q2' hle.1 hle.2) ?_
    simp -dsimp -implicitDefEqProofs [s0, s1, s5, hlt, hlt', withO_of hm, hkd, hsz, hl, hrow, withO_of hm', hkd', hsz', hl', hrow', hw]
    refine ⟨fun g => GC.eq ?_, fun g => ?_⟩
    · have : xs ≠ ys := by rintro rfl; simp at g
      simp [this]
    · exact next_ hlt ⟨rfl, by simp [s0, s1, hw], take_succ_eq hlt hlt' ht (by simpa using g)⟩
  · simp -dsimp -implicitDefEqProofs [s0, s1, s5, hlt]
    refine GC.eq ?_
    rw [List.take_of_length_le (by omega), List.take_of_length_le (by omega)] at ht
    simp [ht]
end Go.Proofs.Ytciekhcdkfhcoaa
