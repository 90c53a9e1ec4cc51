/-
  'FnExactHeightOfPile': for all arguments the program's HeightOfPile returns what the reference's returns, leaves its arguments as they are and returns memory of its own. Conditions: none.
-/
import Derived.Test.YtnipgigpjhalkaaNestB
set_option linter.unusedSimpArgs false
set_option linter.unusedVariables false
namespace Go.Proofs.Ytnipgigpjhalkaa
open Go.Abs Go.RowKit

theorem lawHeightOfPile_c (xs : List I3) (a : Option Addr) (ys : List Int) (b : Option Addr) (m : Mem) (hr0 : RdG v3 3 m a xs) (hm0 : xs.length ≤ maxLen) (hr1 : RdI m b ys) (hm1 : ys.length ≤ maxLen) : ACalls Try.prog 8 [.slice a xs.length xs.length, .slice b ys.length ys.length] m (.bool true) m := by
  have hg3 : ∀ x, (v3 x).length = 3 := fun _ => rfl
  refine acalls_of_vc Try.func8 rfl Try.fol (by kernel_rfl) ?_
  simp only [Try.f8]
  simp -dsimp -implicitDefEqProofs
  refine ⟨fun _ => GC.refl _ _ _, fun hb1 => ?_⟩
  have hn1 : ys.length ≤ 1048576 := by simp at hb1; omega
  refine callsTo Try.cal19 (szPotS_c a _ _ _ hm0 (by decide)) ?_
  simp -dsimp -implicitDefEqProofs
  refine ⟨fun _ => GC.refl _ _ _, fun hb0 => ?_⟩
  obtain ⟨hn0', he0⟩ := leftI_ok hb0
  rw [he0]
  have hn0 : xs.length ≤ 1048576 := by omega
  refine callsTo Try.cal21 (toPotS_c xs a _ hr0 hn0) ?_
  simp -dsimp -implicitDefEqProofs
  refine callsTo Try.cal33 (toInt64S_c ys b _ (hr1.ext _) hn1) ?_
  simp -dsimp -implicitDefEqProofs
  refine callsTo Try.cal32 (specHigh_c xs ys _ _ _ (RdG.of_get hg3 (o := ⟨_, _, 3, 1⟩) xs (by simp; rfl) (by simp) rfl rfl) (RdI.of_get (xs := ys) (o := ⟨_, _, 1, 1⟩) (by simp; rfl) (by simp) rfl rfl) hn0 hn1) ?_
  simp -dsimp -implicitDefEqProofs [highV]
  refine callsTo Try.cal21 (toPotS_c xs a _ (hr0.ext _) hn0) ?_
  simp -dsimp -implicitDefEqProofs [highV]
  refine callsTo Try.cal33 (toInt64S_c ys b _ (hr1.ext _) hn1) ?_
  simp -dsimp -implicitDefEqProofs [highV]
  refine callsTo Try.cal34 (implHigh_c xs ys _ _ _ (RdG.of_get hg3 (o := ⟨_, _, 3, 1⟩) xs (by simp; rfl) (by simp) rfl rfl) (RdI.of_get (xs := ys) (o := ⟨_, _, 1, 1⟩) (by simp; rfl) (by simp) rfl rfl) hn0 hn1) ?_
  simp -dsimp -implicitDefEqProofs [highV]
  refine callsTo Try.cal21 (toPotS_c xs a _ (hr0.ext _) hn0) ?_
  simp -dsimp -implicitDefEqProofs [highV]
  refine callsTo Try.cal23 (eqPotS_c xs xs _ _ _ (RdG.of_get hg3 (o := ⟨_, _, 3, 1⟩) xs (by simp; rfl) (by simp) rfl rfl) (RdG.of_get hg3 (o := ⟨_, _, 3, 1⟩) xs (by simp; rfl) (by simp) rfl rfl) hn0) ?_
  simp -dsimp -implicitDefEqProofs [highV]
  refine callsTo Try.cal33 (toInt64S_c ys b _ (hr1.ext _) hn1) ?_
  simp -dsimp -implicitDefEqProofs [highV]
  refine callsTo Try.cal26 (eqInt64S_c ys ys _ _ _ (RdI.of_get (xs := ys) (o := ⟨_, _, 1, 1⟩) (by simp; rfl) (by simp) rfl rfl) (RdI.of_get (xs := ys) (o := ⟨_, _, 1, 1⟩) (by simp; rfl) (by simp) rfl rfl) hn1) ?_
  simp -dsimp -implicitDefEqProofs [highV]
  exact GC.dropEq rfl rfl

set_option maxRecDepth 100000 in
theorem fnExactHeightOfPileLifted (os : Os) (started : os.Started) (H : Type) (enc : TypeId × Value → H) :
    ReturnsInHanded {} Try.checked os 8 .any (Rows.fnExactHeightOfPileSpec.pre6 enc Try.prog Try.f8 Rows.fnExactHeightOfPileRow.domain false) (Rows.fnExactHeightOfPileSpec.post enc Try.prog Try.f8 false true false false) :=
  lawLifted (C := Try.checked) [.one (.sl [I64, I64, I64]), .one (.sl [I64])] 3 4 (by kernel_rfl) started (by kernel_rfl) Try.func8
    (ChangeSpec.witness6 (enc := enc) (C := Try.checked) false ⟨#[], #[.slice none 0 0,.slice none 0 0], []⟩ 8 (by kernel_rfl) (by kernel_rfl) (by kernel_rfl) (by kernel_rfl))
    (by kernel_rfl) (by kernel_rfl) (by kernel_rfl) rfl (by kernel_rfl) rfl (fun ds h => match ds, h with | [_, _], _ => rfl) fun m vs h => by
      obtain ⟨u0, u1, rfl, hv0, hv1⟩ := h.two
      obtain ⟨a, xs, rfl, hl0, hq0, _⟩ := CV.sl3 hv0
      obtain ⟨b, ys, rfl, hl1, hq1, _⟩ := CV.sl1 hv1
      exact ⟨_, lawHeightOfPile_c xs a ys b m hq0 hl0 hq1 hl1⟩

theorem fnExactHeightOfPileHolds : Rows.FnExactHeightOfPileSaid :=
  OpenClaim.holds_of_wide 8 Try.f8 rfl rfl rfl rfl rfl rfl rfl ⟨rfl, rfl, rfl, rfl, rfl⟩ rfl rfl rfl rfl rfl (by kernel_rfl) Try.func8 (by kernel_rfl)
    (of_decide_eq_true (by kernel_rfl)) (by unfold Func.isWrapper; first | (rw [if_pos (by decide +kernel)]; kernel_rfl) | (rw [if_neg (by decide +kernel)]; exact ⟨rfl, rfl⟩))
    (fun os started H enc _ => fnExactHeightOfPileLifted os started H enc)
end Go.Proofs.Ytnipgigpjhalkaa

