/-
  Lids, part 1: the contracts of the small functions of lids. Conditions: none.
-/
import Derived.Test.YthadhfogmfcacaaPotA
set_option linter.unusedSimpArgs false
set_option linter.unusedVariables false
set_option linter.unusedSectionVars false
namespace Go.Proofs.Ythadhfogmfcacaa
open Go.Abs Go.RowKit

def lidB (p : I3) : Bool := inB p.1 20 2000 && inB p.2.1 1 9 && inB p.2.2 1 10000
theorem l22One_c (p : I3) (m : Mem) (id off : Nat) (hp : IsP m id off p) : ACalls Try.prog 39 [.pointer (some ⟨id, off, none⟩)] m (.bool (lidB p)) m := by
  obtain ⟨o, hm, hk, h0, h1, h2⟩ := hp
  refine acalls_of_vc Try.func39 rfl Try.fol (by kernel_rfl) ?_
  simp only [Try.f39]
  simp -dsimp -implicitDefEqProofs [withO_of hm, hk, withC_of h0, withC_of h1, withC_of h2]
  refine callsTo Try.cal55 (l00In_c _ _ _ _) ?_
  simp -dsimp -implicitDefEqProofs [withO_of hm, hk, withC_of h0, withC_of h1, withC_of h2]
  refine ⟨fun g1 => ?_, fun g1 => GC.eq (by simp [lidB, g1])⟩
  refine callsTo Try.cal55 (l00In_c _ _ _ _) ?_
  simp -dsimp -implicitDefEqProofs [withO_of hm, hk, withC_of h0, withC_of h1, withC_of h2]
  refine ⟨fun g2 => ?_, fun g2 => GC.eq (by simp [lidB, g1, g2])⟩
  refine callsTo Try.cal55 (l00In_c _ _ _ _) ?_
  simp -dsimp -implicitDefEqProofs [withO_of hm, hk, withC_of h0, withC_of h1, withC_of h2]
  exact GC.eq (by simp [lidB, g1, g2])
theorem isLid_c (p : I3) (m : Mem) : ACalls Try.prog 43 [.agg (v3 p).toArray] m (.bool (lidB p)) m := by
  refine acalls_of_vc Try.func43 rfl Try.fol (by kernel_rfl) ?_
  simp only [Try.f43, v3]
  simp -dsimp -implicitDefEqProofs
  refine callsTo Try.cal56 (within_c _ _ _ _) ?_
  simp -dsimp -implicitDefEqProofs
  refine ⟨fun g1 => ?_, fun g1 => GC.dropEq (by simp [lidB, g1]) rfl⟩
  refine callsTo Try.cal56 (within_c _ _ _ _) ?_
  simp -dsimp -implicitDefEqProofs
  refine ⟨fun g2 => ?_, fun g2 => GC.dropEq (by simp [lidB, g1, g2]) rfl⟩
  refine callsTo Try.cal56 (within_c _ _ _ _) ?_
  simp -dsimp -implicitDefEqProofs
  exact GC.dropEq (by simp [lidB, g1, g2]) rfl
theorem l22Width_c (n : Int) (m : Mem) : ACalls Try.prog 40 [.int .i64 n] m (.bool (inB n 1 2000)) m := by
  refine acalls_of_vc Try.func40 rfl Try.fol (by kernel_rfl) ?_
  simp only [Try.f40]
  simp -dsimp -implicitDefEqProofs
  refine callsTo Try.cal55 (l00In_c _ _ _ _) ?_
  simp -dsimp -implicitDefEqProofs
  exact GC.refl _ _ _
theorem l22Loose_c (n : Int) (m : Mem) : ACalls Try.prog 41 [.int .i64 n] m (.bool (inB n 0 100)) m := by
  refine acalls_of_vc Try.func41 rfl Try.fol (by kernel_rfl) ?_
  simp only [Try.f41]
  simp -dsimp -implicitDefEqProofs
  refine callsTo Try.cal55 (l00In_c _ _ _ _) ?_
  simp -dsimp -implicitDefEqProofs
  exact GC.refl _ _ _
theorem areWidths_c (xs : List Int) (a : Option Addr) (w : Int) (m : Mem) (hr : RdI m a xs) (hl : xs.length ≤ maxLen) : ACalls Try.prog 44 [.slice a xs.length xs.length, .int .i64 w] m (.bool (decide (xs.length ≤ 12) && xs.all (inB · 1 2000) && inB w 0 100)) m := by
  refine acalls_of_vc Try.func44 rfl Try.fol (by kernel_rfl) ?_
  simp only [Try.f44]
  simp -dsimp -implicitDefEqProofs
  refine ⟨fun g1 => ?_, fun g1 => GC.eq ?_⟩
  · refine callsTo Try.cal57 (eachWithin_c xs a _ _ _ m hr hl) ?_
    simp -dsimp -implicitDefEqProofs
    refine ⟨fun g2 => ?_, fun g2 => GC.eq ?_⟩
    · refine callsTo Try.cal56 (within_c _ _ _ _) ?_
      simp -dsimp -implicitDefEqProofs
      exact GC.eq (by simp at g1; simp [show xs.length ≤ 12 by omega, g2])
    · simp [g2]
  · simp at g1; simp [show ¬ xs.length ≤ 12 by omega]
def slk (p : I3) (w : Int) : Int := IntKind.i64.wrap (IntKind.i64.wrap (p.1 - IntKind.i64.wrap (2 * p.2.1)) - w)
theorem l22Slack_c (p : I3) (w : Int) (m : Mem) (id off : Nat) (hp : IsP m id off p) : ACalls Try.prog 46 [.pointer (some ⟨id, off, none⟩), .int .i64 w] m (.int .i64 (slk p w)) m := by
  obtain ⟨o, hm, hk, h0, h1, h2⟩ := hp
  refine acalls_of_vc Try.func46 rfl Try.fol (by kernel_rfl) ?_
  simp only [Try.f46]
  simp -dsimp -implicitDefEqProofs [withO_of hm, hk, withC_of h0, withC_of h1, withC_of h2]
  exact GC.refl _ _ _
theorem slackOf_c (p : I3) (w : Int) (m : Mem) : ACalls Try.prog 47 [.agg (v3 p).toArray, .int .i64 w] m (.int .i64 (slk p w)) m := by
  refine acalls_of_vc Try.func47 rfl Try.fol (by kernel_rfl) ?_
  simp only [Try.f47, v3]
  simp -dsimp -implicitDefEqProofs
  exact GC.dropEq rfl rfl
theorem l22Fits_c (p : I3) (w s : Int) (m : Mem) (id off : Nat) (hp : IsP m id off p) : ACalls Try.prog 42 [.pointer (some ⟨id, off, none⟩), .int .i64 w, .int .i64 s] m (.bool (inB (slk p w) 0 s)) m := by
  refine acalls_of_vc Try.func42 rfl Try.fol (by kernel_rfl) ?_
  simp only [Try.f42]
  simp -dsimp -implicitDefEqProofs
  refine callsTo Try.cal46 (l22Slack_c p w _ _ _ hp) ?_
  simp -dsimp -implicitDefEqProofs
  refine callsTo Try.cal55 (l00In_c _ _ _ _) ?_
  simp -dsimp -implicitDefEqProofs
  exact GC.refl _ _ _
theorem lidFits_c (p : I3) (w s : Int) (m : Mem) : ACalls Try.prog 45 [.agg (v3 p).toArray, .int .i64 w, .int .i64 s] m (.bool (inB (slk p w) 0 s)) m := by
  refine acalls_of_vc Try.func45 rfl Try.fol (by kernel_rfl) ?_
  simp only [Try.f45, v3]
  simp -dsimp -implicitDefEqProofs
  refine callsTo Try.cal47 (slackOf_c p w _) ?_
  simp -dsimp -implicitDefEqProofs
  refine callsTo Try.cal56 (within_c _ _ _ _) ?_
  simp -dsimp -implicitDefEqProofs
  exact GC.dropEq rfl rfl
theorem toLid_c (p : I3) (m : Mem) : ACalls Try.prog 12 [.agg (v3 p).toArray] m (.agg (v3 p).toArray) m := by
  refine acalls_of_vc Try.func12 rfl Try.fol (by kernel_rfl) ?_
  simp only [Try.f12, v3]
  simp -dsimp -implicitDefEqProofs
  exact GC.dropEq rfl rfl

/-- What the two return: of a lid on a width with a slack, and of the slack itself. -/
def lidC (p : I3) (w s : Int) : Int := if lidB p then (if inB w 1 2000 && inB s 0 100 then 0 else 2) else 1
def lidFitsV (p : I3) (w s : Int) : Value := .tuple #[.bool (decide (lidC p w s = 0) && inB (slk p w) 0 s), .int .i64 (lidC p w s)]
theorem specLidFits_c (p : I3) (w s : Int) (m : Mem) : ACalls Try.prog 11 [.agg (v3 p).toArray, .int .i64 w, .int .i64 s] m (lidFitsV p w s) m := by
  refine acalls_of_vc Try.func11 rfl Try.fol (by kernel_rfl) ?_
  simp only [Try.f11, v3]
  simp -dsimp -implicitDefEqProofs
  refine callsTo Try.cal39 (l22One_c p _ _ _ ?_) ?_
  · exact IsP.mk (o := ⟨v3 p, _, 3, 1⟩) (by simp [v3]; rfl) (by simp) rfl
  simp -dsimp -implicitDefEqProofs
  refine ⟨fun g1 => GC.dropEq (by simp at g1; simp [lidFitsV, lidC, g1]) rfl, fun g1 => ?_⟩
  simp at g1
  refine callsTo Try.cal40 (l22Width_c _ _) ?_
  simp -dsimp -implicitDefEqProofs
  refine ⟨fun g2 => GC.dropEq (by simp at g2; simp [lidFitsV, lidC, g1, g2]) rfl, fun g2 => ?_⟩
  simp at g2
  refine callsTo Try.cal41 (l22Loose_c _ _) ?_
  simp -dsimp -implicitDefEqProofs
  refine ⟨fun g3 => GC.dropEq (by simp at g3; simp [lidFitsV, lidC, g1, g2, g3]) rfl, fun g3 => ?_⟩
  simp at g3
  refine callsTo Try.cal42 (l22Fits_c p w s _ _ _ ?_) ?_
  · exact IsP.mk (o := ⟨v3 p, _, 3, 1⟩) (by simp [v3]; rfl) (by simp) rfl
  simp -dsimp -implicitDefEqProofs
  exact GC.dropEq (by simp [lidFitsV, lidC, g1, g2, g3]) rfl
theorem implLidFits_c (p : I3) (w s : Int) (m : Mem) : ACalls Try.prog 13 [.agg (v3 p).toArray, .int .i64 w, .int .i64 s] m (lidFitsV p w s) m := by
  refine acalls_of_vc Try.func13 rfl Try.fol (by kernel_rfl) ?_
  simp only [Try.f13, v3]
  simp -dsimp -implicitDefEqProofs
  refine callsTo Try.cal43 (isLid_c p _) ?_
  simp -dsimp -implicitDefEqProofs
  refine ⟨fun g1 => GC.dropEq (by simp at g1; simp [lidFitsV, lidC, g1]) rfl, fun g1 => ?_⟩
  simp at g1
  refine callsTo Try.cal44 (areWidths_c [w] (some ⟨m.length + 1, 0, none⟩) s _ (RdI.of_get (o := ⟨[.int .i64 w], _, 1, 1⟩) (by simp; rfl) (by simp) rfl rfl) (by simp [maxLen])) ?_
  simp -dsimp -implicitDefEqProofs
  refine ⟨fun g2 => GC.dropEq (by simp [lidFitsV, lidC, g1]; revert g2; cases inB w 1 2000 <;> cases inB s 0 100 <;> simp) rfl, fun g2 => ?_⟩
  have g3 : inB w 1 2000 = true ∧ inB s 0 100 = true := by revert g2; cases inB w 1 2000 <;> cases inB s 0 100 <;> simp
  refine callsTo Try.cal45 (lidFits_c p w s _) ?_
  simp -dsimp -implicitDefEqProofs
  exact GC.dropEq (by simp [lidFitsV, lidC, g1, g3]) rfl

def slackC (p : I3) (w : Int) : Int := if lidB p then (if inB w 1 2000 then (if slk p w < 0 then 9 else 0) else 2) else 1
def slackV (p : I3) (w : Int) : Value := .tuple #[.int .i64 (if slackC p w = 0 then slk p w else 0), .int .i64 (slackC p w)]
theorem specSlack_c (p : I3) (w : Int) (m : Mem) : ACalls Try.prog 14 [.agg (v3 p).toArray, .int .i64 w] m (slackV p w) m := by
  refine acalls_of_vc Try.func14 rfl Try.fol (by kernel_rfl) ?_
  simp only [Try.f14, v3]
  simp -dsimp -implicitDefEqProofs
  refine callsTo Try.cal39 (l22One_c p _ _ _ ?_) ?_
  · exact IsP.mk (o := ⟨v3 p, _, 3, 1⟩) (by simp [v3]; rfl) (by simp) rfl
  simp -dsimp -implicitDefEqProofs
  refine ⟨fun g1 => GC.dropEq (by simp at g1; simp [slackV, slackC, g1]) rfl, fun g1 => ?_⟩
  simp at g1
  refine callsTo Try.cal40 (l22Width_c _ _) ?_
  simp -dsimp -implicitDefEqProofs
  refine ⟨fun g2 => GC.dropEq (by simp at g2; simp [slackV, slackC, g1, g2]) rfl, fun g2 => ?_⟩
  simp at g2
  refine callsTo Try.cal46 (l22Slack_c p w _ _ _ ?_) ?_
  · exact IsP.mk (o := ⟨v3 p, _, 3, 1⟩) (by simp [v3]; rfl) (by simp) rfl
  simp -dsimp -implicitDefEqProofs
  exact ⟨fun g => GC.dropEq (by simp at g; simp [slackV, slackC, g1, g2, g]) rfl, fun g => GC.dropEq (by simp at g; simp [slackV, slackC, g1, g2, show ¬ slk p w < 0 by omega]) rfl⟩
theorem implSlack_c (p : I3) (w : Int) (m : Mem) : ACalls Try.prog 15 [.agg (v3 p).toArray, .int .i64 w] m (slackV p w) m := by
  refine acalls_of_vc Try.func15 rfl Try.fol (by kernel_rfl) ?_
  simp only [Try.f15, v3]
  simp -dsimp -implicitDefEqProofs
  refine callsTo Try.cal43 (isLid_c p _) ?_
  simp -dsimp -implicitDefEqProofs
  refine ⟨fun g1 => GC.dropEq (by simp at g1; simp [slackV, slackC, g1]) rfl, fun g1 => ?_⟩
  simp at g1
  refine callsTo Try.cal44 (areWidths_c [w] (some ⟨m.length + 1, 0, none⟩) 0 _ (RdI.of_get (o := ⟨[.int .i64 w], _, 1, 1⟩) (by simp; rfl) (by simp) rfl rfl) (by simp [maxLen])) ?_
  simp -dsimp -implicitDefEqProofs
  refine ⟨fun g2 => GC.dropEq (by simp [slackV, slackC, g1]; revert g2; cases inB w 1 2000 <;> simp [inB]) rfl, fun g2 => ?_⟩
  have g3 : inB w 1 2000 = true := by revert g2; cases inB w 1 2000 <;> simp [inB]
  refine callsTo Try.cal47 (slackOf_c p w _) ?_
  simp -dsimp -implicitDefEqProofs
  exact ⟨fun g => GC.dropEq (by simp at g; simp [slackV, slackC, g1, g3, g]) rfl, fun g => GC.dropEq (by simp at g; simp [slackV, slackC, g1, g3, show ¬ slk p w < 0 by omega]) rfl⟩
end Go.Proofs.Ythadhfogmfcacaa
