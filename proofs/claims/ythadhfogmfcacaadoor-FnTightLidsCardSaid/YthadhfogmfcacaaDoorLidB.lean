/-
  Lids, part 2: which lids are valid, and the tightest one. Conditions: none.
-/
import Derived.Test.YthadhfogmfcacaaDoorLidA
import Derived.Test.YthadhfogmfcacaaDoorRowLid
set_option linter.unusedSimpArgs false
set_option linter.unusedVariables false
set_option linter.unusedSectionVars false
namespace Go.Proofs.YthadhfogmfcacaaDoor
open Go.Abs Go.RowKit

def lidsB (xs : List I3) : Bool := xs.all lidB && decide (xs.length ≤ 12)
theorem lidsB_false {xs : List I3} {k : Nat} (h : k < xs.length) (h' : lidB xs[k] = false) : lidsB xs = false := by simp [lidsB, all_false_of h h']
theorem l22Ok_c (xs : List I3) (a : Option Addr) (m : Mem) (hr : RdG v3 3 m a xs) (hn : xs.length ≤ 1048576) : ACalls Tryd.prog 31 [.slice a xs.length xs.length] m (.bool (lidsB xs)) m := by
  refine acalls_of_vc Tryd.func31 rfl Tryd.fol (by kernel_rfl) ?_
  simp only [Tryd.f31]
  simp -dsimp -implicitDefEqProofs
  refine loopN xs.length (fun k σ m' => m' = m ∧ (σ 0 = some (.slice a xs.length xs.length) ∧ σ 3 = some (.int .i64 k)) ∧ (xs.take k).all lidB = true) ⟨rfl, by simp, by simp⟩ ?_
  rintro k σ m' hk ⟨rfl, ⟨s0, s3⟩, hok⟩
  by_cases hlt : k < xs.length
  · obtain ⟨id, off, o, rfl, hm, hkd, hsz, hl, hrow, _⟩ := R3.at_ hr hlt
    have hw : IntKind.i64.wrap ((k : Int) + 1) = k + 1 := wrapI (by omega) (by omega)
    simp -dsimp -implicitDefEqProofs [s0, s3, hlt, withO_of hm, hkd, hsz, hw]
    refine callsTo Tryd.cal19 (l22One_c xs[k] _ _ _ (IsP.row hr hlt)) ?_
    simp -dsimp -implicitDefEqProofs [s0, s3, hlt, withO_of hm, hkd, hsz, hw]
    refine ⟨fun g => GC.eq (by rw [lidsB_false hlt (by simpa using g)]), fun g => next_ hlt ⟨rfl, by simp [s0, hw], all_take_succ hlt hok (by simpa using g)⟩⟩
  · simp -dsimp -implicitDefEqProofs [s0, s3, hlt]
    rw [List.take_of_length_le (by omega)] at hok
    exact GC.eq (by simp [lidsB, hok]; omega)
theorem validLids_c (xs : List I3) (a : Option Addr) (m : Mem) (hr : RdG v3 3 m a xs) (hn : xs.length ≤ 1048576) : ACalls Tryd.prog 27 [.slice a xs.length xs.length] m (.bool (lidsB xs)) m := by
  refine acalls_of_vc Tryd.func27 rfl Tryd.fol (by kernel_rfl) ?_
  simp only [Tryd.f27]
  simp -dsimp -implicitDefEqProofs
  refine loopN xs.length (fun k σ m' => m <+: m' ∧ (σ 0 = some (.slice a xs.length xs.length) ∧ σ 5 = some (.slice a xs.length xs.length) ∧ σ 6 = some (.int .i64 xs.length) ∧ σ 7 = some (.int .i64 k)) ∧ (xs.take k).all lidB = true) ⟨pre_refl m, by simp, by simp⟩ ?_
  rintro k σ m' hk ⟨hp, ⟨s0, s5, s6, s7⟩, hok⟩
  by_cases hlt : k < xs.length
  · obtain ⟨id, off, o, rfl, hm, hkd, hsz, hl, hrow, _⟩ := R3.at_ hr hlt
    have hw : IntKind.i64.wrap ((k : Int) + 1) = k + 1 := wrapI (by omega) (by omega)
    have hm' := prefix_get hp hm
    simp -dsimp -implicitDefEqProofs [s0, s5, s6, s7, hlt, withO_of hm', fun l => withO_of (get_old (l := l) hm'), hkd, hsz, hl, hrow, v3, hw]
    refine callsTo Tryd.cal21 (isLid_c xs[k] _) ?_
    simp -dsimp -implicitDefEqProofs [s0, s5, s6, s7, hlt, withO_of hm', fun l => withO_of (get_old (l := l) hm'), hkd, hsz, hl, hrow, v3, hw]
    refine ⟨fun g => GC.dropP (pre_app hp _) (by rw [lidsB_false hlt (by simpa using g)]) rfl, fun g => next_ hlt ⟨pre_app hp _, by simp [s0, s5, s6, hw], all_take_succ hlt hok (by simpa using g)⟩⟩
  · simp -dsimp -implicitDefEqProofs [s0, s5, s6, s7, hlt]
    rw [List.take_of_length_le (by omega)] at hok
    exact GC.dropP hp (by simp [lidsB, hok]; omega) rfl
/-- The tightest of the first k lids that fit, or -1. -/
def tightTo (xs : List I3) (w s : Int) : Nat → Int
  | 0 => -1
  | k + 1 =>
    if inB (slk (xs.getD k (0, 0, 0)) w) 0 s && (decide (tightTo xs w s k < 0) || decide (slk (xs.getD k (0, 0, 0)) w < slk (xs.getD (tightTo xs w s k).toNat (0, 0, 0)) w)) then (k : Int) else tightTo xs w s k
theorem tightTo_lt (xs : List I3) (w s : Int) : ∀ k, -1 ≤ tightTo xs w s k ∧ tightTo xs w s k < k
  | 0 => by simp [tightTo]
  | k + 1 => by
    have := tightTo_lt xs w s k
    simp only [tightTo]
    split <;> omega
def tightI (xs : List I3) (w s : Int) : Int := tightTo xs w s xs.length
def tightC (xs : List I3) (w s : Int) : Int := if lidsB xs then (if inB w 1 2000 && inB s 0 100 then (if tightI xs w s < 0 then 3 else 0) else 2) else 1
def tightV (xs : List I3) (w s : Int) : Value := .tuple #[.int .i64 (if tightC xs w s = 0 then tightI xs w s else 0), .int .i64 (tightC xs w s)]
theorem getD3 {xs : List I3} {k : Nat} (h : k < xs.length) : xs.getD k (0, 0, 0) = xs[k] := by simp [List.getD_eq_getElem?_getD, List.getElem?_eq_getElem h]
theorem specTight_c (xs : List I3) (a : Option Addr) (w s : Int) (m : Mem) (hr : RdG v3 3 m a xs) (hn : xs.length ≤ 1048576) : ACalls Tryd.prog 11 [.slice a xs.length xs.length, .int .i64 w, .int .i64 s] m (tightV xs w s) m := by
  refine acalls_of_vc Tryd.func11 rfl Tryd.fol (by kernel_rfl) ?_
  simp only [Tryd.f11]
  simp -dsimp -implicitDefEqProofs
  refine callsTo Tryd.cal31 (l22Ok_c xs a _ hr hn) ?_
  simp -dsimp -implicitDefEqProofs
  refine ⟨fun g => GC.eq (by simp at g; simp [tightV, tightC, g]), fun g0 => ?_⟩
  simp at g0
  refine callsTo Tryd.cal32 (l22Width_c _ _) ?_
  simp -dsimp -implicitDefEqProofs
  cases g1 : inB w 1 2000 with
  | false =>
    simp -dsimp -implicitDefEqProofs
    exact GC.eq (by simp [tightV, tightC, g0, g1])
  | true =>
  simp -dsimp -implicitDefEqProofs
  refine callsTo Tryd.cal33 (l22Loose_c _ _) ?_
  simp -dsimp -implicitDefEqProofs
  refine ⟨fun g => GC.eq (by simp at g; simp [tightV, tightC, g0, g1, g]), fun g2 => ?_⟩
  simp at g2
  refine loopN xs.length (fun k σ m' => m' = m ∧ σ 0 = some (.slice a xs.length xs.length) ∧ σ 1 = some (.int .i64 w) ∧ σ 2 = some (.int .i64 s) ∧ σ 8 = some (.int .i64 (tightTo xs w s k)) ∧ σ 9 = some (.int .i64 k)) ⟨rfl, by simp [tightTo]⟩ ?_
  rintro k σ m' hk ⟨rfl, s0, s1, s2, s8, s9⟩
  by_cases hlt : k < xs.length
  · obtain ⟨id, off, o, rfl, hm, hkd, hsz, hl, hrow, _⟩ := R3.at_ hr hlt
    have hw : IntKind.i64.wrap ((k : Int) + 1) = k + 1 := wrapI (by omega) (by omega)
    have hb := tightTo_lt xs w s k
    cases hf : inB (slk xs[k] w) 0 s with
    | false =>
      have e : tightTo xs w s (k + 1) = tightTo xs w s k := by simp only [tightTo, getD3 hlt, hf]; rfl
      simp -dsimp -implicitDefEqProofs [s0, s1, s2, s8, s9, hlt, withO_of hm, hkd, hsz, hw, hf]
      refine callsTo Tryd.cal34 (l22Fits_c xs[k] w s _ _ _ (IsP.row hr hlt)) ?_
      simp -dsimp -implicitDefEqProofs [s0, s1, s2, s8, s9, hlt, withO_of hm, hkd, hsz, hw, hf]
      exact next_ hlt ⟨rfl, by simp [s0, s1, s2, s8, hw, e]⟩
    | true =>
      by_cases hneg : tightTo xs w s k < 0
      · have e : tightTo xs w s (k + 1) = k := by simp [tightTo, List.getElem?_eq_getElem hlt, hf, hneg]
        simp -dsimp -implicitDefEqProofs [s0, s1, s2, s8, s9, hlt, withO_of hm, hkd, hsz, hw, hf, hneg]
        refine callsTo Tryd.cal34 (l22Fits_c xs[k] w s _ _ _ (IsP.row hr hlt)) ?_
        simp -dsimp -implicitDefEqProofs [s0, s1, s2, s8, s9, hlt, withO_of hm, hkd, hsz, hw, hf, hneg]
        exact next_ hlt ⟨rfl, by simp [s0, s1, s2, hw, e]⟩
      · obtain ⟨b, hbe⟩ : ∃ b : Nat, tightTo xs w s k = (b : Int) := ⟨(tightTo xs w s k).toNat, by omega⟩
        have hbl : b < xs.length := by omega
        have hb0 : ¬ ((b : Int) < 0) := by omega
        rw [hbe] at s8
        simp -dsimp -implicitDefEqProofs [s0, s1, s2, s8, s9, hlt, withO_of hm, hkd, hsz, hw, hf, hb0, hbl]
        refine callsTo Tryd.cal34 (l22Fits_c xs[k] w s _ _ _ (IsP.row hr hlt)) ?_
        simp -dsimp -implicitDefEqProofs [s0, s1, s2, s8, s9, hlt, withO_of hm, hkd, hsz, hw, hf, hb0, hbl]
        refine callsTo Tryd.cal35 (l22Slack_c xs[k] w _ _ _ (IsP.row hr hlt)) ?_
        simp -dsimp -implicitDefEqProofs [s0, s1, s2, s8, s9, hlt, withO_of hm, hkd, hsz, hw, hf, hb0, hbl]
        refine callsTo Tryd.cal35 (l22Slack_c xs[b] w _ _ _ (IsP.row hr hbl)) ?_
        simp -dsimp -implicitDefEqProofs [s0, s1, s2, s8, s9, hlt, withO_of hm, hkd, hsz, hw, hf, hb0, hbl]
        refine ⟨fun g => ?_, fun g => ?_⟩
        · simp at g
          exact next_ hlt ⟨rfl, by simp [s0, s1, s2, hw, tightTo, List.getElem?_eq_getElem hlt, hbe, List.getElem?_eq_getElem hbl, hf, g]⟩
        · simp at g
          have g' : ¬ slk xs[k] w < slk xs[b] w := by omega
          exact next_ hlt ⟨rfl, by simp [s0, s1, s2, s8, hw, tightTo, List.getElem?_eq_getElem hlt, hbe, List.getElem?_eq_getElem hbl, hf, g', hb0]⟩
  · simp -dsimp -implicitDefEqProofs [s0, s1, s2, s8, s9, hlt]
    obtain rfl : k = xs.length := by omega
    refine ⟨fun g => GC.eq ?_, fun g => GC.eq ?_⟩
    · simp at g; simp [tightV, tightC, g0, g1, g2, tightI, g]
    · simp at g; simp [tightV, tightC, g0, g1, g2, tightI, show ¬ tightTo xs w s xs.length < 0 by omega]
theorem implTight_c (xs : List I3) (a : Option Addr) (w s : Int) (m : Mem) (hr : RdG v3 3 m a xs) (hn : xs.length ≤ 1048576) : ACalls Tryd.prog 10 [.slice a xs.length xs.length, .int .i64 w, .int .i64 s] m (tightV xs w s) m := by
  refine acalls_of_vc Tryd.func10 rfl Tryd.fol (by kernel_rfl) ?_
  simp only [Tryd.f10]
  simp -dsimp -implicitDefEqProofs
  refine callsTo Tryd.cal27 (validLids_c xs a _ hr hn) ?_
  simp -dsimp -implicitDefEqProofs
  refine ⟨fun g => GC.eq (by simp at g; simp [tightV, tightC, g]), fun g0 => ?_⟩
  simp at g0
  refine callsTo Tryd.cal28 (areWidths_c [w] (some ⟨m.length, 0, none⟩) s _ (RdI.of_get (o := ⟨[.int .i64 w], _, 1, 1⟩) (by simp; rfl) (by simp) rfl rfl) (by simp [maxLen])) ?_
  simp -dsimp -implicitDefEqProofs
  refine ⟨fun g => GC.dropP (pre_app (pre_refl m) _) (by simp [tightV, tightC, g0]; revert g; cases inB w 1 2000 <;> cases inB s 0 100 <;> simp) rfl, fun g => ?_⟩
  have g12 : inB w 1 2000 = true ∧ inB s 0 100 = true := by revert g; cases inB w 1 2000 <;> cases inB s 0 100 <;> simp
  obtain ⟨g1, g2⟩ := g12
  refine loopN xs.length (fun k σ m' => m <+: m' ∧ σ 0 = some (.slice a xs.length xs.length) ∧ σ 19 = some (.slice a xs.length xs.length) ∧ σ 20 = some (.int .i64 xs.length) ∧ σ 1 = some (.int .i64 w) ∧ σ 2 = some (.int .i64 s) ∧ σ 8 = some (.int .i64 (tightTo xs w s k)) ∧ σ 21 = some (.int .i64 k)) ⟨pre_app (pre_refl m) _, by simp [tightTo]⟩ ?_
  rintro k σ m' hk ⟨hp, s0, s19, s20, s1, s2, s8, s21⟩
  by_cases hlt : k < xs.length
  · obtain ⟨id, off, o, rfl, hm, hkd, hsz, hl, hrow, _⟩ := R3.at_ hr hlt
    have hw : IntKind.i64.wrap ((k : Int) + 1) = k + 1 := wrapI (by omega) (by omega)
    have hb := tightTo_lt xs w s k
    have hm' := prefix_get hp hm
    cases hf : inB (slk xs[k] w) 0 s with
    | false =>
      have e : tightTo xs w s (k + 1) = tightTo xs w s k := by simp only [tightTo, getD3 hlt, hf]; rfl
      simp -dsimp -implicitDefEqProofs [s0, s19, s20, s1, s2, s8, s21, hlt, withO_of hm', fun l => withO_of (get_old (l := l) hm'), hkd, hsz, hl, hrow, v3, hw, hf]
      refine callsTo Tryd.cal29 (lidFits_c xs[k] w s _) ?_
      simp -dsimp -implicitDefEqProofs [s0, s19, s20, s1, s2, s8, s21, hlt, withO_of hm', fun l => withO_of (get_old (l := l) hm'), hkd, hsz, hl, hrow, v3, hw, hf]
      exact next_ hlt ⟨pre_app hp _, by simp [s0, s19, s20, s1, s2, s8, hw, e]⟩
    | true =>
      by_cases hneg : tightTo xs w s k < 0
      · have e : tightTo xs w s (k + 1) = k := by simp [tightTo, List.getElem?_eq_getElem hlt, hf, hneg]
        simp -dsimp -implicitDefEqProofs [s0, s19, s20, s1, s2, s8, s21, hlt, withO_of hm', fun l => withO_of (get_old (l := l) hm'), hkd, hsz, hl, hrow, v3, hw, hf, hneg]
        refine callsTo Tryd.cal29 (lidFits_c xs[k] w s _) ?_
        simp -dsimp -implicitDefEqProofs [s0, s19, s20, s1, s2, s8, s21, hlt, withO_of hm', fun l => withO_of (get_old (l := l) hm'), hkd, hsz, hl, hrow, v3, hw, hf, hneg]
        exact next_ hlt ⟨pre_app hp _, by simp [s0, s19, s20, s1, s2, hw, e]⟩
      · obtain ⟨b, hbe⟩ : ∃ b : Nat, tightTo xs w s k = (b : Int) := ⟨(tightTo xs w s k).toNat, by omega⟩
        have hbl : b < xs.length := by omega
        have hb0 : ¬ ((b : Int) < 0) := by omega
        rw [hbe] at s8
        obtain ⟨id2, off2, o2, ha2, hm2, hkd2, hsz2, hl2, hrow2, _⟩ := R3.at_ hr hbl
        simp at ha2
        obtain ⟨rfl, rfl⟩ := ha2
        rw [hm] at hm2
        injection hm2 with hm2
        subst hm2
        simp -dsimp -implicitDefEqProofs [s0, s19, s20, s1, s2, s8, s21, hlt, withO_of hm', fun l => withO_of (get_old (l := l) hm'), hkd, hsz, hl, hrow, v3, hw, hf, hb0, hbl, hl2, hrow2]
        refine callsTo Tryd.cal29 (lidFits_c xs[k] w s _) ?_
        simp -dsimp -implicitDefEqProofs [s0, s19, s20, s1, s2, s8, s21, hlt, withO_of hm', fun l => withO_of (get_old (l := l) hm'), hkd, hsz, hl, hrow, v3, hw, hf, hb0, hbl, hl2, hrow2]
        refine callsTo Tryd.cal30 (slackOf_c xs[k] w _) ?_
        simp -dsimp -implicitDefEqProofs [s0, s19, s20, s1, s2, s8, s21, hlt, withO_of hm', fun l => withO_of (get_old (l := l) hm'), hkd, hsz, hl, hrow, v3, hw, hf, hb0, hbl, hl2, hrow2]
        refine callsTo Tryd.cal30 (slackOf_c xs[b] w _) ?_
        simp -dsimp -implicitDefEqProofs [s0, s19, s20, s1, s2, s8, s21, hlt, withO_of hm', fun l => withO_of (get_old (l := l) hm'), hkd, hsz, hl, hrow, v3, hw, hf, hb0, hbl, hl2, hrow2]
        refine ⟨fun g => ?_, fun g => ?_⟩
        · simp at g
          exact next_ hlt ⟨pre_app hp _, by simp [s0, s19, s20, s1, s2, hw, tightTo, List.getElem?_eq_getElem hlt, hbe, List.getElem?_eq_getElem hbl, hf, g]⟩
        · simp at g
          have g' : ¬ slk xs[k] w < slk xs[b] w := by omega
          exact next_ hlt ⟨pre_app hp _, by simp [s0, s19, s20, s1, s2, s8, hw, tightTo, List.getElem?_eq_getElem hlt, hbe, List.getElem?_eq_getElem hbl, hf, g', hb0]⟩
  · simp -dsimp -implicitDefEqProofs [s0, s19, s20, s1, s2, s8, s21, hlt]
    obtain rfl : k = xs.length := by omega
    refine ⟨fun g => GC.dropP hp ?_ rfl, fun g => GC.dropP hp ?_ rfl⟩
    · simp at g; simp [tightV, tightC, g0, g1, g2, tightI, g]
    · simp at g; simp [tightV, tightC, g0, g1, g2, tightI, show ¬ tightTo xs w s xs.length < 0 by omega]
end Go.Proofs.YthadhfogmfcacaaDoor
