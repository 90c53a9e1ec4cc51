/-
  Pots, part 2: how far a pot stands out of another. Conditions: none.
-/
import Derived.Test.YtnipgigpjhalkaaPotA
set_option linter.unusedSimpArgs false
set_option linter.unusedVariables false
set_option linter.unusedSectionVars false
namespace Go.Proofs.Ytnipgigpjhalkaa
open Go.Abs Go.RowKit

/-- How far the one stands out of the other. -/
def outI (p q : I3) : Int := max 0 (IntKind.i64.wrap (p.2.2 - q.2.2))
theorem l19Out_c (p q : I3) (m : Mem) (id off id' off' : Nat) (hp : IsP m id off p) (hq : IsP m id' off' q) :
    ACalls Try.prog 58 [.pointer (some ⟨id, off, none⟩), .pointer (some ⟨id', off', none⟩)] m (.int .i64 (outI p q)) m := by
  obtain ⟨o, hm, hk, h0, h1, h2⟩ := hp
  obtain ⟨o', hm', hk', h0', h1', h2'⟩ := hq
  refine acalls_of_vc Try.func58 rfl Try.fol (by kernel_rfl) ?_
  simp only [Try.f58]
  simp -dsimp -implicitDefEqProofs [withO_of hm, hk, withC_of h0, withC_of h1, withC_of h2, withO_of hm', hk', withC_of h0', withC_of h1', withC_of h2']
  refine callsTo Try.cal68 (l00Max_c _ _ _) ?_
  simp -dsimp -implicitDefEqProofs
  exact GC.refl _ _ _
def deepC (p q : I3) : Int := if potB p && potB q then (if fitB p q then 0 else 9) else 1
def deepV (p q : I3) : Value := .tuple #[.int .i64 (if deepC p q = 0 then outI p q else 0), .int .i64 (deepC p q)]
theorem specDeep_c (p q : I3) (m : Mem) : ACalls Try.prog 17 [.agg (v3 p).toArray, .agg (v3 q).toArray] m (deepV p q) m := by
  refine acalls_of_vc Try.func17 rfl Try.fol (by kernel_rfl) ?_
  simp only [Try.f17, v3]
  simp -dsimp -implicitDefEqProofs
  refine callsTo Try.cal54 (l19Two_c p q _ _ _ _ _ ?_ ?_) ?_
  · exact IsP.mk (o := ⟨v3 p, _, 3, 1⟩) (by simp [v3]; rfl) (by simp) rfl
  · exact IsP.mk (o := ⟨v3 q, _, 3, 1⟩) (by simp [v3]; rfl) (by simp) rfl
  cases hc : (potB p && potB q) with
  | false =>
    have e : twoI p q = 1 := by simp only [twoI, hc]; rfl
    rw [e]
    simp -dsimp -implicitDefEqProofs
    exact GC.dropEq (by simp only [deepV, deepC, hc]; rfl) rfl
  | true =>
    have e : twoI p q = 0 := by simp only [twoI, hc]; rfl
    rw [e]
    simp -dsimp -implicitDefEqProofs
    refine callsTo Try.cal55 (l19Fits_c p q _ _ _ _ _ ?_ ?_) ?_
    · exact IsP.mk (o := ⟨v3 p, _, 3, 1⟩) (by simp [v3]; rfl) (by simp) rfl
    · exact IsP.mk (o := ⟨v3 q, _, 3, 1⟩) (by simp [v3]; rfl) (by simp) rfl
    simp -dsimp -implicitDefEqProofs
    refine ⟨fun g => GC.dropEq (by simp at g; simp [deepV, deepC, hc, g]) rfl, fun g => ?_⟩
    refine callsTo Try.cal58 (l19Out_c p q _ _ _ _ _ ?_ ?_) ?_
    · exact IsP.mk (o := ⟨v3 p, _, 3, 1⟩) (by simp [v3]; rfl) (by simp) rfl
    · exact IsP.mk (o := ⟨v3 q, _, 3, 1⟩) (by simp [v3]; rfl) (by simp) rfl
    simp -dsimp -implicitDefEqProofs
    exact GC.dropEq (by simp at g; simp [deepV, deepC, hc, g]) rfl
theorem implDeep_c (p q : I3) (m : Mem) : ACalls Try.prog 18 [.agg (v3 p).toArray, .agg (v3 q).toArray] m (deepV p q) m := by
  refine acalls_of_vc Try.func18 rfl Try.fol (by kernel_rfl) ?_
  simp only [Try.f18, v3]
  simp -dsimp -implicitDefEqProofs
  refine callsTo Try.cal56 (isPot_c p _) ?_
  simp -dsimp -implicitDefEqProofs
  refine ⟨fun g1 => GC.dropEq (by simp at g1; simp [deepV, deepC, g1]) rfl, fun g1 => ?_⟩
  refine callsTo Try.cal56 (isPot_c q _) ?_
  simp -dsimp -implicitDefEqProofs
  refine ⟨fun g2 => GC.dropEq (by simp at g2; simp [deepV, deepC, g2]) rfl, fun g2 => ?_⟩
  simp at g1 g2
  refine callsTo Try.cal57 (fitsIn_c p q _) ?_
  simp -dsimp -implicitDefEqProofs
  refine ⟨fun g3 => GC.dropEq (by simp at g3; simp [deepV, deepC, g1, g2, g3]) rfl, fun g3 => GC.dropEq (by simp at g3; simp [deepV, deepC, g1, g2, g3, outI]) rfl⟩
end Go.Proofs.Ytnipgigpjhalkaa
