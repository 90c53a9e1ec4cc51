/-
  'FnExactValidPots': for all arguments the program's ValidPots returns what the reference's returns, leaves its arguments as they are and returns memory of its own. Conditions: none.
-/
import Derived.Test.YtnipgigpjhalkaaNestA
set_option linter.unusedSimpArgs false
set_option linter.unusedVariables false
namespace Go.Proofs.Ytnipgigpjhalkaa
open Go.Abs Go.RowKit

theorem lawValidPots_c (xs : List I3) (a : Option Addr) (m : Mem) (hr0 : RdG v3 3 m a xs) (hm0 : xs.length ≤ maxLen) : ACalls Try.prog 5 [.slice a xs.length xs.length] m (.bool true) m := by
  have hg3 : ∀ x, (v3 x).length = 3 := fun _ => rfl
  refine acalls_of_vc Try.func5 rfl Try.fol (by kernel_rfl) ?_
  simp only [Try.f5]
  simp -dsimp -implicitDefEqProofs
  refine callsTo Try.cal19 (szPotS_c a _ _ _ hm0 (by decide)) ?_
  simp -dsimp -implicitDefEqProofs
  refine ⟨fun _ => GC.refl _ _ _, fun hb0 => ?_⟩
  obtain ⟨hn0', he0⟩ := leftI_ok hb0
  rw [he0]
  have hn0 : xs.length ≤ 1048576 := by omega
  refine callsTo Try.cal21 (toPotS_c xs a _ hr0 hn0) ?_
  simp -dsimp -implicitDefEqProofs
  refine callsTo Try.cal20 (specValidPots_c xs _ _ (RdG.of_get hg3 (o := ⟨_, _, 3, 1⟩) xs (by simp; rfl) (by simp) rfl rfl) hn0) ?_
  simp -dsimp -implicitDefEqProofs
  refine callsTo Try.cal21 (toPotS_c xs a _ (hr0.ext _) hn0) ?_
  simp -dsimp -implicitDefEqProofs
  refine callsTo Try.cal22 (validPots_c xs _ _ (RdG.of_get hg3 (o := ⟨_, _, 3, 1⟩) xs (by simp; rfl) (by simp) rfl rfl) hn0) ?_
  simp -dsimp -implicitDefEqProofs
  refine callsTo Try.cal21 (toPotS_c xs a _ (hr0.ext _) hn0) ?_
  simp -dsimp -implicitDefEqProofs
  refine callsTo Try.cal23 (eqPotS_c xs xs _ _ _ (RdG.of_get hg3 (o := ⟨_, _, 3, 1⟩) xs (by simp; rfl) (by simp) rfl rfl) (RdG.of_get hg3 (o := ⟨_, _, 3, 1⟩) xs (by simp; rfl) (by simp) rfl rfl) hn0) ?_
  simp -dsimp -implicitDefEqProofs
  exact GC.dropEq rfl rfl

set_option maxRecDepth 100000 in
theorem fnExactValidPotsLifted (os : Os) (started : os.Started) (H : Type) (enc : TypeId × Value → H) :
    ReturnsInHanded {} Try.checked os 5 .any (Rows.fnExactValidPotsSpec.pre6 enc Try.prog Try.f5 Rows.fnExactValidPotsRow.domain false) (Rows.fnExactValidPotsSpec.post enc Try.prog Try.f5 false true false false) :=
  lawLifted (C := Try.checked) [.one (.sl [I64, I64, I64])] 3 4 (by kernel_rfl) started (by kernel_rfl) Try.func5
    (ChangeSpec.witness6 (enc := enc) (C := Try.checked) false ⟨#[], #[.slice none 0 0], []⟩ 8 (by kernel_rfl) (by kernel_rfl) (by kernel_rfl) (by kernel_rfl))
    (by kernel_rfl) (by kernel_rfl) (by kernel_rfl) rfl (by kernel_rfl) rfl (fun ds h => match ds, h with | [_], _ => rfl) fun m vs h => by
      obtain ⟨u0, rfl, hv0⟩ := h.one
      obtain ⟨a, xs, rfl, hl0, hq0, _⟩ := CV.sl3 hv0
      exact ⟨_, lawValidPots_c xs a m hq0 hl0⟩

theorem fnExactValidPotsHolds : Rows.FnExactValidPotsSaid :=
  OpenClaim.holds_of_wide 5 Try.f5 rfl rfl rfl rfl rfl rfl rfl ⟨rfl, rfl, rfl, rfl, rfl⟩ rfl rfl rfl rfl rfl (by kernel_rfl) Try.func5 (by kernel_rfl)
    (of_decide_eq_true (by kernel_rfl)) (by unfold Func.isWrapper; first | (rw [if_pos (by decide +kernel)]; kernel_rfl) | (rw [if_neg (by decide +kernel)]; exact ⟨rfl, rfl⟩))
    (fun os started H enc _ => fnExactValidPotsLifted os started H enc)
end Go.Proofs.Ytnipgigpjhalkaa

