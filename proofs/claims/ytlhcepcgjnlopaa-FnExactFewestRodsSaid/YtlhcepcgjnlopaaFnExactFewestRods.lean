/-
  'FnExactFewestRods': for all arguments the program's FewestRods returns what the reference's returns, leaves its arguments as they are and returns memory of its own. Conditions: none.
-/
import Derived.Test.YtlhcepcgjnlopaaKinH
set_option linter.unusedSimpArgs false
set_option linter.unusedVariables false
set_option linter.unusedSectionVars false
namespace Go.Proofs.Ytlhcepcgjnlopaa
open Go.Abs Go.RowKit

theorem lawFewestRods_c (xs : List I2) (a : Option Addr) (n : Int) (m : Mem) (hr0 : RdG v2 2 m a xs) (hm0 : xs.length ≤ maxLen) : ACalls Try.prog 10 [.slice a xs.length xs.length, .int .i64 n] m (.bool true) m := by
  have hg2 : ∀ x, (v2 x).length = 2 := fun _ => rfl
  refine acalls_of_vc Try.func10 rfl Try.fol (by kernel_rfl) ?_
  simp only [Try.f10]
  simp -dsimp -implicitDefEqProofs
  refine callsTo Try.cal13 (szKindS_c a _ _ _ hm0 (by decide)) ?_
  simp -dsimp -implicitDefEqProofs
  refine ⟨fun _ => GC.refl _ _ _, fun hb0 => ?_⟩
  obtain ⟨hn0', he0⟩ := leftI_ok hb0
  rw [he0]
  have hn0 : xs.length ≤ 1048576 := by omega
  refine callsTo Try.cal15 (toKindS_c xs a _ hr0 hn0) ?_
  simp -dsimp -implicitDefEqProofs
  cases hO : bestO xs n true with
  | none =>
    refine callsTo Try.cal35 (specFew_c xs _ n _ (RdG.of_get hg2 (o := ⟨_, _, 2, 1⟩) xs (by simp; rfl) (by simp) rfl rfl) hn0 (fun a ha => by injection ha with ha; subst ha; simp)) ?_
    simp -dsimp -implicitDefEqProofs [hO, optV, optM, bestV]
    refine callsTo Try.cal15 (toKindS_c xs a _ (hr0.ext _) hn0) ?_
    simp -dsimp -implicitDefEqProofs [hO, optV, optM, bestV]
    refine callsTo Try.cal36 (implFew_c xs _ n _ (RdG.of_get hg2 (o := ⟨_, _, 2, 1⟩) xs (by simp; rfl) (by simp) rfl rfl) hn0 (fun a ha => by injection ha with ha; subst ha; simp)) ?_
    simp -dsimp -implicitDefEqProofs [hO, optV, optM, bestV]
    refine callsTo Try.cal27 (eqInt64S_c [] [] _ _ _ (RdI.nil _ _) (RdI.nil _ _) (by simp)) ?_
    simp -dsimp -implicitDefEqProofs [hO, optV, optM, bestV]
    refine callsTo Try.cal15 (toKindS_c xs a _ (hr0.ext _) hn0) ?_
    simp -dsimp -implicitDefEqProofs [hO, optV, optM, bestV]
    refine callsTo Try.cal17 (eqKindS_c xs xs _ _ _ (RdG.of_get hg2 (o := ⟨_, _, 2, 1⟩) xs (by simp; rfl) (by simp) rfl rfl) (RdG.of_get hg2 (o := ⟨_, _, 2, 1⟩) xs (by simp; rfl) (by simp) rfl rfl) hn0) ?_
    simp -dsimp -implicitDefEqProofs [hO, optV, optM, bestV]
    have hk : ¬ ((1 : Int) + (xs.length : Int) * 2 < 0) := by omega
    refine callsTo Try.cal30 (markKindS_c xs _ _ ⟨_, _, 2, 1⟩ _ (by simp; rfl) rfl rfl (by simp) hn0 (by decide)) ?_
    simp -dsimp -implicitDefEqProofs [hO, optV, optM, bestV, hk]
    refine callsTo Try.cal27 (eqInt64S_c [] [] _ _ _ (RdI.nil _ _) (RdI.nil _ _) (by simp)) ?_
    simp -dsimp -implicitDefEqProofs [hO, optV, optM, bestV, hk]
    refine callsTo Try.cal31 (markInt64S_nil _ _ _) ?_
    simp -dsimp -implicitDefEqProofs [hO, optV, optM, bestV, hk]
    refine callsTo Try.cal37 (heldInt64S_c 0 1 _ _ (RdMk.nil 1 1 _ _) (by simp) (by decide)) ?_
    simp -dsimp -implicitDefEqProofs [hO, optV, optM, bestV, hk]
    refine callsTo Try.cal15 (toKindS_c xs a _ (hr0.ext _) hn0) ?_
    simp -dsimp -implicitDefEqProofs [hO, optV, optM, bestV, hk]
    refine callsTo Try.cal36 (implFew_c xs _ n _ (RdG.of_get hg2 (o := ⟨_, _, 2, 1⟩) xs (by simp; rfl) (by simp) rfl rfl) hn0 (fun a ha => by injection ha with ha; subst ha; simp)) ?_
    simp -dsimp -implicitDefEqProofs [hO, optV, optM, bestV, hk]
    refine callsTo Try.cal27 (eqInt64S_c [] [] _ _ _ (RdI.nil _ _) (RdI.nil _ _) (by simp)) ?_
    simp -dsimp -implicitDefEqProofs [hO, optV, optM, bestV, hk]
    refine callsTo Try.cal37 (heldInt64S_c 0 1 _ _ (RdMk.nil 1 1 _ _) (by simp) (by decide)) ?_
    simp -dsimp -implicitDefEqProofs [hO, optV, optM, bestV, hk]
    exact GC.dropEq rfl rfl
  | some zs =>
    have hz : zs.length ≤ 1048576 := (bestO_length hO).symm ▸ hn0
    refine callsTo Try.cal35 (specFew_c xs _ n _ (RdG.of_get hg2 (o := ⟨_, _, 2, 1⟩) xs (by simp; rfl) (by simp) rfl rfl) hn0 (fun a ha => by injection ha with ha; subst ha; simp)) ?_
    simp -dsimp -implicitDefEqProofs [hO, optV, optM, bestV]
    refine callsTo Try.cal15 (toKindS_c xs a _ (hr0.ext _) hn0) ?_
    simp -dsimp -implicitDefEqProofs [hO, optV, optM, bestV]
    refine callsTo Try.cal36 (implFew_c xs _ n _ (RdG.of_get hg2 (o := ⟨_, _, 2, 1⟩) xs (by simp; rfl) (by simp) rfl rfl) hn0 (fun a ha => by injection ha with ha; subst ha; simp)) ?_
    simp -dsimp -implicitDefEqProofs [hO, optV, optM, bestV]
    refine callsTo Try.cal27 (eqInt64S_c zs zs _ _ _ (RdI.of_get (xs := zs) (o := ⟨_, _, 1, 2⟩) (by simp; rfl) (by simp) rfl rfl) (RdI.of_get (xs := zs) (o := ⟨_, _, 1, 2⟩) (by simp; rfl) (by simp) rfl rfl) hz) ?_
    simp -dsimp -implicitDefEqProofs [hO, optV, optM, bestV]
    refine callsTo Try.cal15 (toKindS_c xs a _ (hr0.ext _) hn0) ?_
    simp -dsimp -implicitDefEqProofs [hO, optV, optM, bestV]
    refine callsTo Try.cal17 (eqKindS_c xs xs _ _ _ (RdG.of_get hg2 (o := ⟨_, _, 2, 1⟩) xs (by simp; rfl) (by simp) rfl rfl) (RdG.of_get hg2 (o := ⟨_, _, 2, 1⟩) xs (by simp; rfl) (by simp) rfl rfl) hn0) ?_
    simp -dsimp -implicitDefEqProofs [hO, optV, optM, bestV]
    have hk : ¬ ((1 : Int) + (xs.length : Int) * 2 < 0) := by omega
    have hq : ¬ ((1 : Int) + (zs.length : Int) < 0) := by omega
    refine callsTo Try.cal30 (markKindS_c xs _ _ ⟨_, _, 2, 1⟩ _ (by simp; rfl) rfl rfl (by simp) hn0 (by decide)) ?_
    simp -dsimp -implicitDefEqProofs [hO, optV, optM, bestV, hk, hq]
    refine callsTo Try.cal27 (eqInt64S_c zs zs _ _ _ (RdI.of_get (xs := zs) (o := ⟨_, _, 1, 2⟩) (by simp; rfl) (by simp) rfl rfl) (RdI.of_get (xs := zs) (o := ⟨_, _, 1, 2⟩) (by simp; rfl) (by simp) rfl rfl) hz) ?_
    simp -dsimp -implicitDefEqProofs [hO, optV, optM, bestV, hk, hq]
    refine callsTo Try.cal31 (markInt64S_c zs 1 _ ⟨_, _, 1, 2⟩ _ (by simp; rfl) rfl rfl (by simp) hz (by decide)) ?_
    simp -dsimp -implicitDefEqProofs [hO, optV, optM, bestV, hk, hq]
    refine callsTo Try.cal37 (heldInt64S_c zs.length 1 _ _ (RdMk.of_get zs.length (o := ⟨mkCells 1 1 zs.length, _, 1, 2⟩) (by simp; rfl) (by simp) rfl rfl) hz (by decide)) ?_
    simp -dsimp -implicitDefEqProofs [hO, optV, optM, bestV, hk, hq]
    refine callsTo Try.cal15 (toKindS_c xs a _ (hr0.ext _) hn0) ?_
    simp -dsimp -implicitDefEqProofs [hO, optV, optM, bestV, hk, hq]
    refine callsTo Try.cal36 (implFew_c xs _ n _ (RdG.of_get hg2 (o := ⟨_, _, 2, 1⟩) xs (by simp; rfl) (by simp) rfl rfl) hn0 (fun a ha => by injection ha with ha; subst ha; simp)) ?_
    simp -dsimp -implicitDefEqProofs [hO, optV, optM, bestV, hk, hq]
    refine callsTo Try.cal27 (eqInt64S_c zs zs _ _ _ (RdI.of_get (xs := zs) (o := ⟨_, _, 1, 2⟩) (by simp; rfl) (by simp) rfl rfl) (RdI.of_get (xs := zs) (o := ⟨_, _, 1, 2⟩) (by simp; rfl) (by simp) rfl rfl) hz) ?_
    simp -dsimp -implicitDefEqProofs [hO, optV, optM, bestV, hk, hq]
    refine callsTo Try.cal37 (heldInt64S_c zs.length 1 _ _ (RdMk.of_get zs.length (o := ⟨mkCells 1 1 zs.length, _, 1, 2⟩) (by simp; rfl) (by simp) rfl rfl) hz (by decide)) ?_
    simp -dsimp -implicitDefEqProofs [hO, optV, optM, bestV, hk, hq]
    exact GC.dropEq rfl rfl

set_option maxRecDepth 100000 in
theorem fnExactFewestRodsLifted (os : Os) (started : os.Started) (H : Type) (enc : TypeId × Value → H) :
    ReturnsInHanded {} Try.checked os 10 .any (Rows.fnExactFewestRodsSpec.pre6 enc Try.prog Try.f10 Rows.fnExactFewestRodsRow.domain false) (Rows.fnExactFewestRodsSpec.post enc Try.prog Try.f10 false true false false) :=
  lawLifted (C := Try.checked) [.one (.sl [I64, I64]), .one I64] 3 4 (by kernel_rfl) started (by kernel_rfl) Try.func10
    (ChangeSpec.witness6 (enc := enc) (C := Try.checked) false ⟨#[], #[.slice none 0 0,.int .i64 0], []⟩ 8 (by kernel_rfl) (by kernel_rfl) (by kernel_rfl) (by kernel_rfl))
    (by kernel_rfl) (by kernel_rfl) (by kernel_rfl) rfl (by kernel_rfl) rfl (fun ds h => match ds, h with | [_, _], _ => rfl) fun m vs h => by
      obtain ⟨u0, u1, rfl, hv0, hv1⟩ := h.two
      obtain ⟨a, xs, rfl, hl0, hq0, _⟩ := CV.sl2 hv0
      obtain ⟨n, rfl, hi1⟩ := CV.int hv1
      exact ⟨_, lawFewestRods_c xs a n m hq0 hl0⟩

theorem fnExactFewestRodsHolds : Rows.FnExactFewestRodsSaid :=
  OpenClaim.holds_of_wide 10 Try.f10 rfl rfl rfl rfl rfl rfl rfl ⟨rfl, rfl, rfl, rfl, rfl⟩ rfl rfl rfl rfl rfl (by kernel_rfl) Try.func10 (by kernel_rfl)
    (of_decide_eq_true (by kernel_rfl)) (by unfold Func.isWrapper; first | (rw [if_pos (by decide +kernel)]; kernel_rfl) | (rw [if_neg (by decide +kernel)]; exact ⟨rfl, rfl⟩))
    (fun os started H enc _ => fnExactFewestRodsLifted os started H enc)
end Go.Proofs.Ytlhcepcgjnlopaa

