/-
  'FnExactValidKinds': for every list of kinds the program's ValidKinds returns what the reference's returns. Conditions: none.
-/
import Derived.Test.YtielbajlpnplaaaKinB
namespace Go.Proofs.Ytielbajlpnplaaa
open Go.Abs Go.RowKit

theorem lawKinds_c (xs : List I2) (a : Option Addr) (m : Mem) (hr : RdG v2 2 m a xs) (hn : xs.length ≤ maxLen) : ACalls Try.prog 7 [.slice a xs.length xs.length] m (.bool true) m := by
  refine acalls_of_vc Try.func7 rfl Try.fol (by kernel_rfl) ?_
  simp only [Try.f7]
  simp -dsimp -implicitDefEqProofs
  refine callsTo Try.cal19 (szKindS_c a _ _ _ hn (by decide)) ?_
  simp -dsimp -implicitDefEqProofs
  refine ⟨fun _ => GC.refl _ _ _, fun g => ?_⟩
  have hl : xs.length ≤ 1048576 := by have := (leftI_ok g).1; omega
  have hg : ∀ x, (v2 x).length = 2 := fun _ => rfl
  refine callsTo Try.cal21 (toKindS_c xs a _ hr hl) ?_
  simp -dsimp -implicitDefEqProofs
  refine callsTo Try.cal20 (specKinds_c xs _ _ (RdG.copied hg _ _ _ _ _ (by omega)) hl) ?_
  simp -dsimp -implicitDefEqProofs
  refine callsTo Try.cal21 (toKindS_c xs a _ (hr.ext _) hl) ?_
  simp -dsimp -implicitDefEqProofs
  refine callsTo Try.cal22 (implKinds_c xs _ _ ?_ hl) ?_
  · exact RdG.of_get hg (o := ⟨_, _, 2, 1⟩) xs (by simp; rfl) (by simp) rfl rfl
  simp -dsimp -implicitDefEqProofs
  refine callsTo Try.cal21 (toKindS_c xs a _ (hr.ext _) hl) ?_
  simp -dsimp -implicitDefEqProofs
  refine callsTo Try.cal23 (eqKindS_c xs xs _ _ _ ?_ ?_ hl) ?_
  · exact RdG.of_get hg (o := ⟨_, _, 2, 1⟩) xs (by simp; rfl) (by simp) rfl rfl
  · exact RdG.of_get hg (o := ⟨_, _, 2, 1⟩) xs (by simp; rfl) (by simp) rfl rfl
  simp -dsimp -implicitDefEqProofs
  exact GC.dropEq rfl rfl

set_option maxRecDepth 100000 in
theorem fnExactValidKindsLifted (os : Os) (started : os.Started) (H : Type) (enc : TypeId × Value → H) :
    ReturnsInHanded {} Try.checked os 7 .any (Rows.fnExactValidKindsSpec.pre6 enc Try.prog Try.f7 Rows.fnExactValidKindsRow.domain false) (Rows.fnExactValidKindsSpec.post enc Try.prog Try.f7 false true false false) :=
  lawLifted (C := Try.checked) [.one (.sl [I64, I64])] 3 4 (by kernel_rfl) started (by kernel_rfl) Try.func7
    (ChangeSpec.witness6 (enc := enc) (C := Try.checked) false ⟨#[], #[.slice none 0 0], []⟩ 8 (by kernel_rfl) (by kernel_rfl) (by kernel_rfl) (by kernel_rfl))
    (by kernel_rfl) (by kernel_rfl) (by kernel_rfl) rfl (by kernel_rfl) rfl (fun ds h => match ds, h with | [_], _ => rfl) fun m vs h => by
      obtain ⟨u, rfl, hu⟩ := h.one
      obtain ⟨a, xs, rfl, hl, hr, _⟩ := CV.sl2 hu
      exact ⟨_, lawKinds_c xs a m hr hl⟩

theorem fnExactValidKindsHolds : Rows.FnExactValidKindsSaid :=
  OpenClaim.holds_of_wide 7 Try.f7 rfl rfl rfl rfl rfl rfl rfl ⟨rfl, rfl, rfl, rfl, rfl⟩ rfl rfl rfl rfl rfl (by kernel_rfl) Try.func7 (by kernel_rfl)
    (of_decide_eq_true (by kernel_rfl)) (by unfold Func.isWrapper; first | (rw [if_pos (by decide +kernel)]; kernel_rfl) | (rw [if_neg (by decide +kernel)]; exact ⟨rfl, rfl⟩))
    (fun os started H enc _ => fnExactValidKindsLifted os started H enc)
end Go.Proofs.Ytielbajlpnplaaa
