/-
  'FnExactFitsIn': for every two pots the program's FitsIn returns what the reference's returns. Conditions: none.
-/
import Derived.Test.YtielbajlpnplaaaPotA
namespace Go.Proofs.Ytielbajlpnplaaa
open Go.Abs Go.RowKit

set_option maxRecDepth 100000 in
theorem fitsLifted (os : Os) (started : os.Started) (H : Type) (enc : TypeId × Value → H) :
    ReturnsInHanded {} Try.checked os 3 .any (Rows.fnExactFitsInSpec.pre6 enc Try.prog Try.f3 Rows.fnExactFitsInRow.domain false) (Rows.fnExactFitsInSpec.post enc Try.prog Try.f3 false true false false) :=
  lawLifted (C := Try.checked) [.agg [I64, I64, I64], .agg [I64, I64, I64]] 2 4 (by kernel_rfl) started (by kernel_rfl) Try.func3
    (ChangeSpec.witness6 (enc := enc) (C := Try.checked) false ⟨#[], #[.agg #[.int .i64 0, .int .i64 0, .int .i64 0], .agg #[.int .i64 0, .int .i64 0, .int .i64 0]], []⟩ 8 (by kernel_rfl) (by kernel_rfl) (by kernel_rfl) (by kernel_rfl))
    (by kernel_rfl) (by kernel_rfl) (by kernel_rfl) rfl (by kernel_rfl) rfl (fun ds h => match ds, h with | [_, _], _ => rfl) fun m vs h => by
      obtain ⟨u, v, rfl, hu, hv⟩ := h.two
      obtain ⟨p, rfl, _⟩ := hu.agg3
      obtain ⟨q, rfl, _⟩ := hv.agg3
      exact ⟨_, lawFits_c p q m⟩

theorem fitsHolds : Rows.FnExactFitsInSaid :=
  OpenClaim.holds_of_wide 3 Try.f3 rfl rfl rfl rfl rfl rfl rfl ⟨rfl, rfl, rfl, rfl, rfl⟩ rfl rfl rfl rfl rfl (by kernel_rfl) Try.func3 (by kernel_rfl)
    (of_decide_eq_true (by kernel_rfl)) (by unfold Func.isWrapper; first | (rw [if_pos (by decide +kernel)]; kernel_rfl) | (rw [if_neg (by decide +kernel)]; exact ⟨rfl, rfl⟩))
    (fun os started H enc _ => fitsLifted os started H enc)
end Go.Proofs.Ytielbajlpnplaaa
