/-
  'FnExactFewestPiles': for all arguments the program's FewestPiles returns what the reference's returns, leaves its arguments as they are and returns memory of its own. Conditions: none.
-/
import Derived.Test.YtnipgigpjhalkaaNestJ
set_option linter.unusedSimpArgs false
set_option linter.unusedVariables false
set_option linter.unusedSectionVars false
namespace Go.Proofs.Ytnipgigpjhalkaa
open Go.Abs Go.RowKit

theorem lawFewestPiles_c (xs : List I3) (a : Option Addr) (m : Mem) (hr0 : RdG v3 3 m a xs) (hm0 : xs.length ≤ maxLen) : ACalls Try.prog 7 [.slice a xs.length xs.length] m (.bool true) m := by
  have hg3 : ∀ x, (v3 x).length = 3 := fun _ => rfl
  refine acalls_of_vc Try.func7 rfl Try.fol (by kernel_rfl) ?_
  simp only [Try.f7]
  simp -dsimp -implicitDefEqProofs
  refine callsTo Try.cal19 (szPotS_c a _ _ _ hm0 (by decide)) ?_
  simp -dsimp -implicitDefEqProofs
  refine ⟨fun _ => GC.refl _ _ _, fun hb0 => ?_⟩
  obtain ⟨hn0', he0⟩ := leftI_ok hb0
  rw [he0]
  have hn0 : xs.length ≤ 1048576 := by omega
  refine callsTo Try.cal21 (toPotS_c xs a _ hr0 hn0) ?_
  simp -dsimp -implicitDefEqProofs
  refine callsTo Try.cal30 (specFew_c xs _ _ (RdG.of_get hg3 (o := ⟨_, _, 3, 1⟩) xs (by simp; rfl) (by simp) rfl rfl) hn0 (fun x h => by injection h with h; subst h; simp)) ?_
  simp -dsimp -implicitDefEqProofs [fewV]
  refine callsTo Try.cal21 (toPotS_c xs a _ (hr0.ext _) hn0) ?_
  simp -dsimp -implicitDefEqProofs [fewV]
  refine callsTo Try.cal31 (implFew_c xs _ _ (RdG.of_get hg3 (o := ⟨_, _, 3, 1⟩) xs (by simp; rfl) (by simp) rfl rfl) hn0) ?_
  simp -dsimp -implicitDefEqProofs [fewV]
  refine callsTo Try.cal21 (toPotS_c xs a _ (hr0.ext _) hn0) ?_
  simp -dsimp -implicitDefEqProofs [fewV]
  refine callsTo Try.cal23 (eqPotS_c xs xs _ _ _ (RdG.of_get hg3 (o := ⟨_, _, 3, 1⟩) xs (by simp; rfl) (by simp) rfl rfl) (RdG.of_get hg3 (o := ⟨_, _, 3, 1⟩) xs (by simp; rfl) (by simp) rfl rfl) hn0) ?_
  simp -dsimp -implicitDefEqProofs [fewV]
  exact GC.dropEq rfl rfl

set_option maxRecDepth 100000 in
theorem fnExactFewestPilesLifted (os : Os) (started : os.Started) (H : Type) (enc : TypeId × Value → H) :
    ReturnsInHanded {} Try.checked os 7 .any (Rows.fnExactFewestPilesSpec.pre6 enc Try.prog Try.f7 Rows.fnExactFewestPilesRow.domain false) (Rows.fnExactFewestPilesSpec.post enc Try.prog Try.f7 false true false false) :=
  lawLifted (C := Try.checked) [.one (.sl [I64, I64, I64])] 3 4 (by kernel_rfl) started (by kernel_rfl) Try.func7
    (ChangeSpec.witness6 (enc := enc) (C := Try.checked) false ⟨#[], #[.slice none 0 0], []⟩ 8 (by kernel_rfl) (by kernel_rfl) (by kernel_rfl) (by kernel_rfl))
    (by kernel_rfl) (by kernel_rfl) (by kernel_rfl) rfl (by kernel_rfl) rfl (fun ds h => match ds, h with | [_], _ => rfl) fun m vs h => by
      obtain ⟨u0, rfl, hv0⟩ := h.one
      obtain ⟨a, xs, rfl, hl0, hq0, _⟩ := CV.sl3 hv0
      exact ⟨_, lawFewestPiles_c xs a m hq0 hl0⟩

theorem fnExactFewestPilesHolds : Rows.FnExactFewestPilesSaid :=
  OpenClaim.holds_of_wide 7 Try.f7 rfl rfl rfl rfl rfl rfl rfl ⟨rfl, rfl, rfl, rfl, rfl⟩ rfl rfl rfl rfl rfl (by kernel_rfl) Try.func7 (by kernel_rfl)
    (of_decide_eq_true (by kernel_rfl)) (by unfold Func.isWrapper; first | (rw [if_pos (by decide +kernel)]; kernel_rfl) | (rw [if_neg (by decide +kernel)]; exact ⟨rfl, rfl⟩))
    (fun os started H enc _ => fnExactFewestPilesLifted os started H enc)
end Go.Proofs.Ytnipgigpjhalkaa

