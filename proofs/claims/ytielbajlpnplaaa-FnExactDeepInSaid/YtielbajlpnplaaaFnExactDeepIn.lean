/-
  'FnExactDeepIn': for every two pots the program's DeepIn returns what the reference's returns. Conditions: none.
-/
import Derived.Test.YtielbajlpnplaaaPotB
import Derived.Test.YtielbajlpnplaaaAbsRows
namespace Go.Proofs.Ytielbajlpnplaaa
open Go.Abs Go.RowKit

theorem lawDeep_c (p q : I3) (m : Mem) : ACalls Try.prog 4 [.agg (v3 p).toArray, .agg (v3 q).toArray] m (.bool true) m := by
  refine acalls_of_vc Try.func4 rfl Try.fol (by kernel_rfl) ?_
  simp only [Try.f4, v3]
  simp -dsimp -implicitDefEqProofs
  refine callsTo Try.cal10 (toPot_c p _) ?_
  simp -dsimp -implicitDefEqProofs
  refine callsTo Try.cal10 (toPot_c q _) ?_
  simp -dsimp -implicitDefEqProofs
  refine callsTo Try.cal12 (specDeep_c p q _) ?_
  simp -dsimp -implicitDefEqProofs [deepV]
  refine callsTo Try.cal10 (toPot_c p _) ?_
  simp -dsimp -implicitDefEqProofs
  refine callsTo Try.cal10 (toPot_c q _) ?_
  simp -dsimp -implicitDefEqProofs
  refine callsTo Try.cal13 (implDeep_c p q _) ?_
  simp -dsimp -implicitDefEqProofs [deepV]
  exact GC.dropEq rfl rfl

set_option maxRecDepth 100000 in
theorem fnExactDeepInLifted (os : Os) (started : os.Started) (H : Type) (enc : TypeId × Value → H) :
    ReturnsInHanded {} Try.checked os 4 .any (Rows.fnExactDeepInSpec.pre6 enc Try.prog Try.f4 Rows.fnExactDeepInRow.domain false) (Rows.fnExactDeepInSpec.post enc Try.prog Try.f4 false true false false) :=
  lawLifted (C := Try.checked) [.agg [I64, I64, I64], .agg [I64, I64, I64]] 3 4 (by kernel_rfl) started (by kernel_rfl) Try.func4
    (ChangeSpec.witness6 (enc := enc) (C := Try.checked) false ⟨#[], #[.agg #[.int .i64 0, .int .i64 0, .int .i64 0],.agg #[.int .i64 0, .int .i64 0, .int .i64 0]], []⟩ 8 (by kernel_rfl) (by kernel_rfl) (by kernel_rfl) (by kernel_rfl))
    (by kernel_rfl) (by kernel_rfl) (by kernel_rfl) rfl (by kernel_rfl) rfl (fun ds h => match ds, h with | [_, _], _ => rfl) fun m vs h => by
      obtain ⟨u, v, rfl, hu, hv⟩ := h.two
      obtain ⟨p, rfl, _⟩ := hu.agg3
      obtain ⟨q, rfl, _⟩ := hv.agg3
      exact ⟨_, lawDeep_c p q m⟩

theorem fnExactDeepInHolds : Rows.FnExactDeepInSaid :=
  OpenClaim.holds_of_wide 4 Try.f4 rfl rfl rfl rfl rfl rfl rfl ⟨rfl, rfl, rfl, rfl, rfl⟩ rfl rfl rfl rfl rfl (by kernel_rfl) Try.func4 (by kernel_rfl)
    (of_decide_eq_true (by kernel_rfl)) (by unfold Func.isWrapper; first | (rw [if_pos (by decide +kernel)]; kernel_rfl) | (rw [if_neg (by decide +kernel)]; exact ⟨rfl, rfl⟩))
    (fun os started H enc _ => fnExactDeepInLifted os started H enc)
end Go.Proofs.Ytielbajlpnplaaa
