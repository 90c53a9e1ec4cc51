/-
  'FnExactSlackOf': for every lid and width the program's SlackOf returns what the reference's returns. Conditions: none.
-/
import Derived.Test.YtielbajlpnplaaaLidA
namespace Go.Proofs.Ytielbajlpnplaaa
open Go.Abs Go.RowKit

theorem lawSlack_c (p : I3) (w : Int) (m : Mem) : ACalls Try.prog 6 [.agg (v3 p).toArray, .int .i64 w] m (.bool true) m := by
  refine acalls_of_vc Try.func6 rfl Try.fol (by kernel_rfl) ?_
  simp only [Try.f6, v3]
  simp -dsimp -implicitDefEqProofs
  refine callsTo Try.cal15 (toLid_c p _) ?_
  simp -dsimp -implicitDefEqProofs
  refine callsTo Try.cal17 (specSlack_c p w _) ?_
  simp -dsimp -implicitDefEqProofs [slackV]
  refine callsTo Try.cal15 (toLid_c p _) ?_
  simp -dsimp -implicitDefEqProofs
  refine callsTo Try.cal18 (implSlack_c p w _) ?_
  simp -dsimp -implicitDefEqProofs [slackV]
  exact GC.dropEq rfl rfl

set_option maxRecDepth 100000 in
theorem slackLifted (os : Os) (started : os.Started) (H : Type) (enc : TypeId × Value → H) :
    ReturnsInHanded {} Try.checked os 6 .any (Rows.fnExactSlackOfSpec.pre6 enc Try.prog Try.f6 Rows.fnExactSlackOfRow.domain false) (Rows.fnExactSlackOfSpec.post enc Try.prog Try.f6 false true false false) :=
  lawLifted (C := Try.checked) [.agg [I64, I64, I64], .one I64] 2 4 (by kernel_rfl) started (by kernel_rfl) Try.func6
    (ChangeSpec.witness6 (enc := enc) (C := Try.checked) false ⟨#[], #[.agg #[.int .i64 0, .int .i64 0, .int .i64 0], .int .i64 0], []⟩ 8 (by kernel_rfl) (by kernel_rfl) (by kernel_rfl) (by kernel_rfl))
    (by kernel_rfl) (by kernel_rfl) (by kernel_rfl) rfl (by kernel_rfl) rfl (fun ds h => match ds, h with | [_, _], _ => rfl) fun m vs h => by
      obtain ⟨u, v, rfl, hu, hv⟩ := h.two
      obtain ⟨p, rfl, _⟩ := hu.agg3
      obtain ⟨q, rfl, _⟩ := CV.int hv
      exact ⟨_, lawSlack_c p q m⟩

theorem slackHolds : Rows.FnExactSlackOfSaid :=
  OpenClaim.holds_of_wide 6 Try.f6 rfl rfl rfl rfl rfl rfl rfl ⟨rfl, rfl, rfl, rfl, rfl⟩ rfl rfl rfl rfl rfl (by kernel_rfl) Try.func6 (by kernel_rfl)
    (of_decide_eq_true (by kernel_rfl)) (by unfold Func.isWrapper; first | (rw [if_pos (by decide +kernel)]; kernel_rfl) | (rw [if_neg (by decide +kernel)]; exact ⟨rfl, rfl⟩))
    (fun os started H enc _ => slackLifted os started H enc)
end Go.Proofs.Ytielbajlpnplaaa
