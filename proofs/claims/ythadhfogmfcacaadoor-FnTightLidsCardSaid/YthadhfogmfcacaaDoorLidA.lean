/-
  Lids, part 1: the contracts of the small functions of lids. Conditions: none.
-/
import Derived.Test.YthadhfogmfcacaaDoorPotA
set_option linter.unusedSimpArgs false
set_option linter.unusedVariables false
set_option linter.unusedSectionVars false
namespace Go.Proofs.YthadhfogmfcacaaDoor
open Go.Abs Go.RowKit

def lidB (p : I3) : Bool := inB p.1 20 2000 && inB p.2.1 1 9 && inB p.2.2 1 10000
theorem l22One_c (p : I3) (m : Mem) (id off : Nat) (hp : IsP m id off p) : ACalls Tryd.prog 19 [.pointer (some ⟨id, off, none⟩)] m (.bool (lidB p)) m := by
  obtain ⟨o, hm, hk, h0, h1, h2⟩ := hp
  refine acalls_of_vc Tryd.func19 rfl Tryd.fol (by kernel_rfl) ?_
  simp only [Tryd.f19]
  simp -dsimp -implicitDefEqProofs [withO_of hm, hk, withC_of h0, withC_of h1, withC_of h2]
  refine callsTo Tryd.cal37 (l00In_c _ _ _ _) ?_
  simp -dsimp -implicitDefEqProofs [withO_of hm, hk, withC_of h0, withC_of h1, withC_of h2]
  refine ⟨fun g1 => ?_, fun g1 => GC.eq (by simp [lidB, g1])⟩
  refine callsTo Tryd.cal37 (l00In_c _ _ _ _) ?_
  simp -dsimp -implicitDefEqProofs [withO_of hm, hk, withC_of h0, withC_of h1, withC_of h2]
  refine ⟨fun g2 => ?_, fun g2 => GC.eq (by simp [lidB, g1, g2])⟩
  refine callsTo Tryd.cal37 (l00In_c _ _ _ _) ?_
  simp -dsimp -implicitDefEqProofs [withO_of hm, hk, withC_of h0, withC_of h1, withC_of h2]
  exact GC.eq (by simp [lidB, g1, g2])
theorem isLid_c (p : I3) (m : Mem) : ACalls Tryd.prog 21 [.agg (v3 p).toArray] m (.bool (lidB p)) m := by
  refine acalls_of_vc Tryd.func21 rfl Tryd.fol (by kernel_rfl) ?_
  simp only [Tryd.f21, v3]
  simp -dsimp -implicitDefEqProofs
  refine callsTo Tryd.cal38 (within_c _ _ _ _) ?_
  simp -dsimp -implicitDefEqProofs
  refine ⟨fun g1 => ?_, fun g1 => GC.dropEq (by simp [lidB, g1]) rfl⟩
  refine callsTo Tryd.cal38 (within_c _ _ _ _) ?_
  simp -dsimp -implicitDefEqProofs
  refine ⟨fun g2 => ?_, fun g2 => GC.dropEq (by simp [lidB, g1, g2]) rfl⟩
  refine callsTo Tryd.cal38 (within_c _ _ _ _) ?_
  simp -dsimp -implicitDefEqProofs
  exact GC.dropEq (by simp [lidB, g1, g2]) rfl
theorem l22Width_c (n : Int) (m : Mem) : ACalls Tryd.prog 32 [.int .i64 n] m (.bool (inB n 1 2000)) m := by
  refine acalls_of_vc Tryd.func32 rfl Tryd.fol (by kernel_rfl) ?_
  simp only [Tryd.f32]
  simp -dsimp -implicitDefEqProofs
  refine callsTo Tryd.cal37 (l00In_c _ _ _ _) ?_
  simp -dsimp -implicitDefEqProofs
  exact GC.refl _ _ _
theorem l22Loose_c (n : Int) (m : Mem) : ACalls Tryd.prog 33 [.int .i64 n] m (.bool (inB n 0 100)) m := by
  refine acalls_of_vc Tryd.func33 rfl Tryd.fol (by kernel_rfl) ?_
  simp only [Tryd.f33]
  simp -dsimp -implicitDefEqProofs
  refine callsTo Tryd.cal37 (l00In_c _ _ _ _) ?_
  simp -dsimp -implicitDefEqProofs
  exact GC.refl _ _ _
theorem areWidths_c (xs : List Int) (a : Option Addr) (w : Int) (m : Mem) (hr : RdI m a xs) (hl : xs.length ≤ maxLen) : ACalls Tryd.prog 28 [.slice a xs.length xs.length, .int .i64 w] m (.bool (decide (xs.length ≤ 12) && xs.all (inB · 1 2000) && inB w 0 100)) m := by
  refine acalls_of_vc Tryd.func28 rfl Tryd.fol (by kernel_rfl) ?_
  simp only [Tryd.f28]
  simp -dsimp -implicitDefEqProofs
  refine ⟨fun g1 => ?_, fun g1 => GC.eq ?_⟩
  · refine callsTo Tryd.cal45 (eachWithin_c xs a _ _ _ m hr hl) ?_
    simp -dsimp -implicitDefEqProofs
    refine ⟨fun g2 => ?_, fun g2 => GC.eq ?_⟩
    · refine callsTo Tryd.cal38 (within_c _ _ _ _) ?_
      simp -dsimp -implicitDefEqProofs
      exact GC.eq (by simp at g1; simp [show xs.length ≤ 12 by omega, g2])
    · simp [g2]
  · simp at g1; simp [show ¬ xs.length ≤ 12 by omega]
def slk (p : I3) (w : Int) : Int := IntKind.i64.wrap (IntKind.i64.wrap (p.1 - IntKind.i64.wrap (2 * p.2.1)) - w)
theorem l22Slack_c (p : I3) (w : Int) (m : Mem) (id off : Nat) (hp : IsP m id off p) : ACalls Tryd.prog 35 [.pointer (some ⟨id, off, none⟩), .int .i64 w] m (.int .i64 (slk p w)) m := by
  obtain ⟨o, hm, hk, h0, h1, h2⟩ := hp
  refine acalls_of_vc Tryd.func35 rfl Tryd.fol (by kernel_rfl) ?_
  simp only [Tryd.f35]
  simp -dsimp -implicitDefEqProofs [withO_of hm, hk, withC_of h0, withC_of h1, withC_of h2]
  exact GC.refl _ _ _
theorem slackOf_c (p : I3) (w : Int) (m : Mem) : ACalls Tryd.prog 30 [.agg (v3 p).toArray, .int .i64 w] m (.int .i64 (slk p w)) m := by
  refine acalls_of_vc Tryd.func30 rfl Tryd.fol (by kernel_rfl) ?_
  simp only [Tryd.f30, v3]
  simp -dsimp -implicitDefEqProofs
  exact GC.dropEq rfl rfl
theorem l22Fits_c (p : I3) (w s : Int) (m : Mem) (id off : Nat) (hp : IsP m id off p) : ACalls Tryd.prog 34 [.pointer (some ⟨id, off, none⟩), .int .i64 w, .int .i64 s] m (.bool (inB (slk p w) 0 s)) m := by
  refine acalls_of_vc Tryd.func34 rfl Tryd.fol (by kernel_rfl) ?_
  simp only [Tryd.f34]
  simp -dsimp -implicitDefEqProofs
  refine callsTo Tryd.cal35 (l22Slack_c p w _ _ _ hp) ?_
  simp -dsimp -implicitDefEqProofs
  refine callsTo Tryd.cal37 (l00In_c _ _ _ _) ?_
  simp -dsimp -implicitDefEqProofs
  exact GC.refl _ _ _
theorem lidFits_c (p : I3) (w s : Int) (m : Mem) : ACalls Tryd.prog 29 [.agg (v3 p).toArray, .int .i64 w, .int .i64 s] m (.bool (inB (slk p w) 0 s)) m := by
  refine acalls_of_vc Tryd.func29 rfl Tryd.fol (by kernel_rfl) ?_
  simp only [Tryd.f29, v3]
  simp -dsimp -implicitDefEqProofs
  refine callsTo Tryd.cal30 (slackOf_c p w _) ?_
  simp -dsimp -implicitDefEqProofs
  refine callsTo Tryd.cal38 (within_c _ _ _ _) ?_
  simp -dsimp -implicitDefEqProofs
  exact GC.dropEq rfl rfl
theorem toLid_c (p : I3) (m : Mem) : ACalls Tryd.prog 6 [.agg (v3 p).toArray] m (.agg (v3 p).toArray) m := by
  refine acalls_of_vc Tryd.func6 rfl Tryd.fol (by kernel_rfl) ?_
  simp only [Tryd.f6, v3]
  simp -dsimp -implicitDefEqProofs
  exact GC.dropEq rfl rfl

/-- What the two return: of a lid on a width with a slack, and of the slack itself. -/
def lidC (p : I3) (w s : Int) : Int := if lidB p then (if inB w 1 2000 && inB s 0 100 then 0 else 2) else 1
def lidFitsV (p : I3) (w s : Int) : Value := .tuple #[.bool (decide (lidC p w s = 0) && inB (slk p w) 0 s), .int .i64 (lidC p w s)]
theorem specLidFits_c (p : I3) (w s : Int) (m : Mem) : ACalls Tryd.prog 17 [.agg (v3 p).toArray, .int .i64 w, .int .i64 s] m (lidFitsV p w s) m := by
  refine acalls_of_vc Tryd.func17 rfl Tryd.fol (by kernel_rfl) ?_
  simp only [Tryd.f17, v3]
  simp -dsimp -implicitDefEqProofs
  refine callsTo Tryd.cal19 (l22One_c p _ _ _ ?_) ?_
  · exact IsP.mk (o := ⟨v3 p, _, 3, 1⟩) (by simp [v3]; rfl) (by simp) rfl
  simp -dsimp -implicitDefEqProofs
  refine ⟨fun g1 => GC.dropEq (by simp at g1; simp [lidFitsV, lidC, g1]) rfl, fun g1 => ?_⟩
  simp at g1
  refine callsTo Tryd.cal32 (l22Width_c _ _) ?_
  simp -dsimp -implicitDefEqProofs
  refine ⟨fun g2 => GC.dropEq (by simp at g2; simp [lidFitsV, lidC, g1, g2]) rfl, fun g2 => ?_⟩
  simp at g2
  refine callsTo Tryd.cal33 (l22Loose_c _ _) ?_
  simp -dsimp -implicitDefEqProofs
  refine ⟨fun g3 => GC.dropEq (by simp at g3; simp [lidFitsV, lidC, g1, g2, g3]) rfl, fun g3 => ?_⟩
  simp at g3
  refine callsTo Tryd.cal34 (l22Fits_c p w s _ _ _ ?_) ?_
  · exact IsP.mk (o := ⟨v3 p, _, 3, 1⟩) (by simp [v3]; rfl) (by simp) rfl
  simp -dsimp -implicitDefEqProofs
  exact GC.dropEq (by simp [lidFitsV, lidC, g1, g2, g3]) rfl
theorem implLidFits_c (p : I3) (w s : Int) (m : Mem) : ACalls Tryd.prog 16 [.agg (v3 p).toArray, .int .i64 w, .int .i64 s] m (lidFitsV p w s) m := by
  refine acalls_of_vc Tryd.func16 rfl Tryd.fol (by kernel_rfl) ?_
  simp only [Tryd.f16, v3]
  simp -dsimp -implicitDefEqProofs
  refine callsTo Tryd.cal21 (isLid_c p _) ?_
  simp -dsimp -implicitDefEqProofs
  refine ⟨fun g1 => GC.dropEq (by simp at g1; simp [lidFitsV, lidC, g1]) rfl, fun g1 => ?_⟩
  simp at g1
  refine callsTo Tryd.cal28 (areWidths_c [w] (some ⟨m.length + 1, 0, none⟩) s _ (RdI.of_get (o := ⟨[.int .i64 w], _, 1, 1⟩) (by simp; rfl) (by simp) rfl rfl) (by simp [maxLen])) ?_
  simp -dsimp -implicitDefEqProofs
  refine ⟨fun g2 => GC.dropEq (by simp [lidFitsV, lidC, g1]; revert g2; cases inB w 1 2000 <;> cases inB s 0 100 <;> simp) rfl, fun g2 => ?_⟩
  have g3 : inB w 1 2000 = true ∧ inB s 0 100 = true := by revert g2; cases inB w 1 2000 <;> cases inB s 0 100 <;> simp
  refine callsTo Tryd.cal29 (lidFits_c p w s _) ?_
  simp -dsimp -implicitDefEqProofs
  exact GC.dropEq (by simp [lidFitsV, lidC, g1, g3]) rfl

def slackC (p : I3) (w : Int) : Int := if lidB p then (if inB w 1 2000 then (if slk p w < 0 then 9 else 0) else 2) else 1
def slackV (p : I3) (w : Int) : Value := .tuple #[.int .i64 (if slackC p w = 0 then slk p w else 0), .int .i64 (slackC p w)]
theorem specSlack_c (p : I3) (w : Int) (m : Mem) : ACalls Tryd.prog 14 [.agg (v3 p).toArray, .int .i64 w] m (slackV p w) m := by
  refine acalls_of_vc Tryd.func14 rfl Tryd.fol (by kernel_rfl) ?_
  simp only [Tryd.f14, v3]
  simp -dsimp -implicitDefEqProofs
  refine callsTo Tryd.cal19 (l22One_c p _ _ _ ?_) ?_
  · exact IsP.mk (o := ⟨v3 p, _, 3, 1⟩) (by simp [v3]; rfl) (by simp) rfl
  simp -dsimp -implicitDefEqProofs
  refine ⟨fun g1 => GC.dropEq (by simp at g1; simp [slackV, slackC, g1]) rfl, fun g1 => ?_⟩
  simp at g1
  refine callsTo Tryd.cal32 (l22Width_c _ _) ?_
  simp -dsimp -implicitDefEqProofs
  refine ⟨fun g2 => GC.dropEq (by simp at g2; simp [slackV, slackC, g1, g2]) rfl, fun g2 => ?_⟩
  simp at g2
  refine callsTo Tryd.cal35 (l22Slack_c p w _ _ _ ?_) ?_
  · exact IsP.mk (o := ⟨v3 p, _, 3, 1⟩) (by simp [v3]; rfl) (by simp) rfl
  simp -dsimp -implicitDefEqProofs
  exact ⟨fun g => GC.dropEq (by simp at g; simp [slackV, slackC, g1, g2, g]) rfl, fun g => GC.dropEq (by simp at g; simp [slackV, slackC, g1, g2, show ¬ slk p w < 0 by omega]) rfl⟩
theorem implSlack_c (p : I3) (w : Int) (m : Mem) : ACalls Tryd.prog 13 [.agg (v3 p).toArray, .int .i64 w] m (slackV p w) m := by
  refine acalls_of_vc Tryd.func13 rfl Tryd.fol (by kernel_rfl) ?_
  simp only [Tryd.f13, v3]
  simp -dsimp -implicitDefEqProofs
  refine callsTo Tryd.cal21 (isLid_c p _) ?_
  simp -dsimp -implicitDefEqProofs
  refine ⟨fun g1 => GC.dropEq (by simp at g1; simp [slackV, slackC, g1]) rfl, fun g1 => ?_⟩
  simp at g1
  refine callsTo Tryd.cal28 (areWidths_c [w] (some ⟨m.length + 1, 0, none⟩) 0 _ (RdI.of_get (o := ⟨[.int .i64 w], _, 1, 1⟩) (by simp; rfl) (by simp) rfl rfl) (by simp [maxLen])) ?_
  simp -dsimp -implicitDefEqProofs
  refine ⟨fun g2 => GC.dropEq (by simp [slackV, slackC, g1]; revert g2; cases inB w 1 2000 <;> simp [inB]) rfl, fun g2 => ?_⟩
  have g3 : inB w 1 2000 = true := by revert g2; cases inB w 1 2000 <;> simp [inB]
  refine callsTo Tryd.cal30 (slackOf_c p w _) ?_
  simp -dsimp -implicitDefEqProofs
  exact ⟨fun g => GC.dropEq (by simp at g; simp [slackV, slackC, g1, g3, g]) rfl, fun g => GC.dropEq (by simp at g; simp [slackV, slackC, g1, g3, show ¬ slk p w < 0 by omega]) rfl⟩
end Go.Proofs.YthadhfogmfcacaaDoor
