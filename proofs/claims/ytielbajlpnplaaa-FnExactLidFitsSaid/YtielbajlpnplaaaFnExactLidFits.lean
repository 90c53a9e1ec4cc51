/-
  'FnExactLidFits': for every lid, width and slack the program's LidFits returns what the reference's returns. Conditions: none.
-/
import Derived.Test.YtielbajlpnplaaaLidA
namespace Go.Proofs.Ytielbajlpnplaaa
open Go.Abs Go.RowKit

theorem lawLidFits_c (p : I3) (w s : Int) (m : Mem) : ACalls Try.prog 5 [.agg (v3 p).toArray, .int .i64 w, .int .i64 s] m (.bool true) m := by
  refine acalls_of_vc Try.func5 rfl Try.fol (by kernel_rfl) ?_
  simp only [Try.f5, v3]
  simp -dsimp -implicitDefEqProofs
  refine callsTo Try.cal15 (toLid_c p _) ?_
  simp -dsimp -implicitDefEqProofs
  refine callsTo Try.cal14 (specLidFits_c p w s _) ?_
  simp -dsimp -implicitDefEqProofs [lidFitsV]
  refine callsTo Try.cal15 (toLid_c p _) ?_
  simp -dsimp -implicitDefEqProofs
  refine callsTo Try.cal16 (implLidFits_c p w s _) ?_
  simp -dsimp -implicitDefEqProofs [lidFitsV]
  exact GC.dropEq rfl rfl

set_option maxRecDepth 100000 in
theorem lidFitsLifted (os : Os) (started : os.Started) (H : Type) (enc : TypeId × Value → H) :
    ReturnsInHanded {} Try.checked os 5 .any (Rows.fnExactLidFitsSpec.pre6 enc Try.prog Try.f5 Rows.fnExactLidFitsRow.domain false) (Rows.fnExactLidFitsSpec.post enc Try.prog Try.f5 false true false false) :=
  lawLifted (C := Try.checked) [.agg [I64, I64, I64], .one I64, .one I64] 2 4 (by kernel_rfl) started (by kernel_rfl) Try.func5
    (ChangeSpec.witness6 (enc := enc) (C := Try.checked) false ⟨#[], #[.agg #[.int .i64 0, .int .i64 0, .int .i64 0], .int .i64 0, .int .i64 0], []⟩ 8 (by kernel_rfl) (by kernel_rfl) (by kernel_rfl) (by kernel_rfl))
    (by kernel_rfl) (by kernel_rfl) (by kernel_rfl) rfl (by kernel_rfl) rfl (fun ds h => match ds, h with | [_, _, _], _ => rfl) fun m vs h => by
      obtain ⟨u, v, w, rfl, hu, hv, hw⟩ := h.three
      obtain ⟨p, rfl, _⟩ := hu.agg3
      obtain ⟨q, rfl, _⟩ := CV.int hv
      obtain ⟨r, rfl, _⟩ := CV.int hw
      exact ⟨_, lawLidFits_c p q r m⟩

theorem lidFitsHolds : Rows.FnExactLidFitsSaid :=
  OpenClaim.holds_of_wide 5 Try.f5 rfl rfl rfl rfl rfl rfl rfl ⟨rfl, rfl, rfl, rfl, rfl⟩ rfl rfl rfl rfl rfl (by kernel_rfl) Try.func5 (by kernel_rfl)
    (of_decide_eq_true (by kernel_rfl)) (by unfold Func.isWrapper; first | (rw [if_pos (by decide +kernel)]; kernel_rfl) | (rw [if_neg (by decide +kernel)]; exact ⟨rfl, rfl⟩))
    (fun os started H enc _ => lidFitsLifted os started H enc)
end Go.Proofs.Ytielbajlpnplaaa
