/-
  'FnExactTakeRods': for all arguments the program's TakeRods returns what the reference's returns, leaves its arguments as they are and returns memory of its own. Conditions: none.
-/
import Derived.Test.YtlhcepcgjnlopaaKinD
set_option linter.unusedSimpArgs false
set_option linter.unusedVariables false
namespace Go.Proofs.Ytlhcepcgjnlopaa
open Go.Abs Go.RowKit

theorem lawTakeRods_c (xs : List I2) (a : Option Addr) (ys : List Int) (b : Option Addr) (m : Mem) (hr0 : RdG v2 2 m a xs) (hm0 : xs.length ≤ maxLen) (hr1 : RdI m b ys) (hm1 : ys.length ≤ maxLen) : ACalls Try.prog 8 [.slice a xs.length xs.length, .slice b ys.length ys.length] m (.bool true) m := by
  have hg2 : ∀ x, (v2 x).length = 2 := fun _ => rfl
  refine acalls_of_vc Try.func8 rfl Try.fol (by kernel_rfl) ?_
  simp only [Try.f8]
  simp -dsimp -implicitDefEqProofs
  refine ⟨fun _ => GC.refl _ _ _, fun hb1 => ?_⟩
  have hn1 : ys.length ≤ 1048576 := by simp at hb1; omega
  refine callsTo Try.cal13 (szKindS_c a _ _ _ hm0 (by decide)) ?_
  simp -dsimp -implicitDefEqProofs
  refine ⟨fun _ => GC.refl _ _ _, fun hb0 => ?_⟩
  obtain ⟨hn0', he0⟩ := leftI_ok hb0
  rw [he0]
  have hn0 : xs.length ≤ 1048576 := by omega
  refine callsTo Try.cal15 (toKindS_c xs a _ hr0 hn0) ?_
  simp -dsimp -implicitDefEqProofs
  refine callsTo Try.cal25 (toInt64S_c ys b _ (hr1.ext _) hn1) ?_
  simp -dsimp -implicitDefEqProofs
  cases hO : takeO xs ys with
  | none =>
    refine callsTo Try.cal28 (specTake_c xs ys _ _ _ (RdG.of_get hg2 (o := ⟨_, _, 2, 1⟩) xs (by simp; rfl) (by simp) rfl rfl) (RdI.of_get (xs := ys) (o := ⟨_, _, 1, 1⟩) (by simp; rfl) (by simp) rfl rfl) hn1 hn0) ?_
    simp -dsimp -implicitDefEqProofs [hO, optVG, optMG]
    refine callsTo Try.cal15 (toKindS_c xs a _ (hr0.ext _) hn0) ?_
    simp -dsimp -implicitDefEqProofs [hO, optVG, optMG]
    refine callsTo Try.cal25 (toInt64S_c ys b _ (hr1.ext _) hn1) ?_
    simp -dsimp -implicitDefEqProofs [hO, optVG, optMG]
    refine callsTo Try.cal29 (implTake_c xs ys _ _ _ _ (RdG.of_get hg2 (o := ⟨_, _, 2, 1⟩) xs (by simp; rfl) (by simp) rfl rfl) (RdI.of_get (xs := ys) (o := ⟨_, _, 1, 1⟩) (by simp; rfl) (by simp) rfl rfl) hn1 hn0) ?_
    simp -dsimp -implicitDefEqProofs [hO, optVG, optMG]
    refine callsTo Try.cal17 (eqKindS_c [] [] _ _ _ (RdG.nil v2 2 _ _) (RdG.nil v2 2 _ _) (by simp)) ?_
    simp -dsimp -implicitDefEqProofs [hO, optVG, optMG]
    refine callsTo Try.cal15 (toKindS_c xs a _ (hr0.ext _) hn0) ?_
    simp -dsimp -implicitDefEqProofs [hO, optVG, optMG]
    refine callsTo Try.cal17 (eqKindS_c xs xs _ _ _ (RdG.of_get hg2 (o := ⟨_, _, 2, 1⟩) xs (by simp; rfl) (by simp) rfl rfl) (RdG.of_get hg2 (o := ⟨_, _, 2, 1⟩) xs (by simp; rfl) (by simp) rfl rfl) hn0) ?_
    simp -dsimp -implicitDefEqProofs [hO, optVG, optMG]
    refine callsTo Try.cal25 (toInt64S_c ys b _ (hr1.ext _) hn1) ?_
    simp -dsimp -implicitDefEqProofs [hO, optVG, optMG]
    refine callsTo Try.cal27 (eqInt64S_c ys ys _ _ _ (RdI.of_get (xs := ys) (o := ⟨_, _, 1, 1⟩) (by simp; rfl) (by simp) rfl rfl) (RdI.of_get (xs := ys) (o := ⟨_, _, 1, 1⟩) (by simp; rfl) (by simp) rfl rfl) hn1) ?_
    simp -dsimp -implicitDefEqProofs [hO, optVG, optMG]
    have hk : ¬ ((1 : Int) + (xs.length : Int) * 2 + (ys.length : Int) < 0) := by omega
    refine callsTo Try.cal30 (markKindS_c xs _ _ ⟨_, _, 2, 1⟩ _ (by simp; rfl) rfl rfl (by simp) hn0 (by decide)) ?_
    simp -dsimp -implicitDefEqProofs [hO, optVG, optMG, hk]
    refine callsTo Try.cal31 (markInt64S_c ys _ _ ⟨_, _, 1, 1⟩ _ (by simp; rfl) rfl rfl (by simp) hn1 (by omega)) ?_
    simp -dsimp -implicitDefEqProofs [hO, optVG, optMG, hk]
    refine callsTo Try.cal17 (eqKindS_c [] [] _ _ _ (RdG.nil v2 2 _ _) (RdG.nil v2 2 _ _) (by simp)) ?_
    simp -dsimp -implicitDefEqProofs [hO, optVG, optMG, hk]
    refine callsTo Try.cal30 (markKindS_nil _ _ _) ?_
    simp -dsimp -implicitDefEqProofs [hO, optVG, optMG, hk]
    refine callsTo Try.cal32 (heldKindS_c 0 1 _ _ (RdMk.nil 2 1 _ _) (by simp) (by decide)) ?_
    simp -dsimp -implicitDefEqProofs [hO, optVG, optMG, hk]
    refine callsTo Try.cal15 (toKindS_c xs a _ (hr0.ext _) hn0) ?_
    simp -dsimp -implicitDefEqProofs [hO, optVG, optMG, hk]
    refine callsTo Try.cal25 (toInt64S_c ys b _ (hr1.ext _) hn1) ?_
    simp -dsimp -implicitDefEqProofs [hO, optVG, optMG, hk]
    refine callsTo Try.cal29 (implTake_c xs ys _ _ _ _ (RdG.of_get hg2 (o := ⟨_, _, 2, 1⟩) xs (by simp; rfl) (by simp) rfl rfl) (RdI.of_get (xs := ys) (o := ⟨_, _, 1, 1⟩) (by simp; rfl) (by simp) rfl rfl) hn1 hn0) ?_
    simp -dsimp -implicitDefEqProofs [hO, optVG, optMG, hk]
    refine callsTo Try.cal17 (eqKindS_c [] [] _ _ _ (RdG.nil v2 2 _ _) (RdG.nil v2 2 _ _) (by simp)) ?_
    simp -dsimp -implicitDefEqProofs [hO, optVG, optMG, hk]
    refine callsTo Try.cal32 (heldKindS_c 0 1 _ _ (RdMk.nil 2 1 _ _) (by simp) (by decide)) ?_
    simp -dsimp -implicitDefEqProofs [hO, optVG, optMG, hk]
    exact GC.dropEq rfl rfl
  | some zs =>
    have hz : zs.length ≤ 1048576 := Nat.le_trans (takeO_length hO) hn0
    refine callsTo Try.cal28 (specTake_c xs ys _ _ _ (RdG.of_get hg2 (o := ⟨_, _, 2, 1⟩) xs (by simp; rfl) (by simp) rfl rfl) (RdI.of_get (xs := ys) (o := ⟨_, _, 1, 1⟩) (by simp; rfl) (by simp) rfl rfl) hn1 hn0) ?_
    simp -dsimp -implicitDefEqProofs [hO, optVG, optMG]
    refine callsTo Try.cal15 (toKindS_c xs a _ (hr0.ext _) hn0) ?_
    simp -dsimp -implicitDefEqProofs [hO, optVG, optMG]
    refine callsTo Try.cal25 (toInt64S_c ys b _ (hr1.ext _) hn1) ?_
    simp -dsimp -implicitDefEqProofs [hO, optVG, optMG]
    refine callsTo Try.cal29 (implTake_c xs ys _ _ _ _ (RdG.of_get hg2 (o := ⟨_, _, 2, 1⟩) xs (by simp; rfl) (by simp) rfl rfl) (RdI.of_get (xs := ys) (o := ⟨_, _, 1, 1⟩) (by simp; rfl) (by simp) rfl rfl) hn1 hn0) ?_
    simp -dsimp -implicitDefEqProofs [hO, optVG, optMG]
    refine callsTo Try.cal17 (eqKindS_c zs zs _ _ _ (RdG.of_get hg2 (o := ⟨_, _, 2, 2⟩) zs (by simp; rfl) (by simp) rfl rfl) (RdG.of_get hg2 (o := ⟨_, _, 2, 2⟩) zs (by simp; rfl) (by simp) rfl rfl) hz) ?_
    simp -dsimp -implicitDefEqProofs [hO, optVG, optMG]
    refine callsTo Try.cal15 (toKindS_c xs a _ (hr0.ext _) hn0) ?_
    simp -dsimp -implicitDefEqProofs [hO, optVG, optMG]
    refine callsTo Try.cal17 (eqKindS_c xs xs _ _ _ (RdG.of_get hg2 (o := ⟨_, _, 2, 1⟩) xs (by simp; rfl) (by simp) rfl rfl) (RdG.of_get hg2 (o := ⟨_, _, 2, 1⟩) xs (by simp; rfl) (by simp) rfl rfl) hn0) ?_
    simp -dsimp -implicitDefEqProofs [hO, optVG, optMG]
    refine callsTo Try.cal25 (toInt64S_c ys b _ (hr1.ext _) hn1) ?_
    simp -dsimp -implicitDefEqProofs [hO, optVG, optMG]
    refine callsTo Try.cal27 (eqInt64S_c ys ys _ _ _ (RdI.of_get (xs := ys) (o := ⟨_, _, 1, 1⟩) (by simp; rfl) (by simp) rfl rfl) (RdI.of_get (xs := ys) (o := ⟨_, _, 1, 1⟩) (by simp; rfl) (by simp) rfl rfl) hn1) ?_
    simp -dsimp -implicitDefEqProofs [hO, optVG, optMG]
    have hk : ¬ ((1 : Int) + (xs.length : Int) * 2 + (ys.length : Int) < 0) := by omega
    have hq : ¬ ((1 : Int) + (zs.length : Int) * 2 < 0) := by omega
    refine callsTo Try.cal30 (markKindS_c xs _ _ ⟨_, _, 2, 1⟩ _ (by simp; rfl) rfl rfl (by simp) hn0 (by decide)) ?_
    simp -dsimp -implicitDefEqProofs [hO, optVG, optMG, hk, hq]
    refine callsTo Try.cal31 (markInt64S_c ys _ _ ⟨_, _, 1, 1⟩ _ (by simp; rfl) rfl rfl (by simp) hn1 (by omega)) ?_
    simp -dsimp -implicitDefEqProofs [hO, optVG, optMG, hk, hq]
    refine callsTo Try.cal17 (eqKindS_c zs zs _ _ _ (RdG.of_get hg2 (o := ⟨_, _, 2, 2⟩) zs (by simp; rfl) (by simp) rfl rfl) (RdG.of_get hg2 (o := ⟨_, _, 2, 2⟩) zs (by simp; rfl) (by simp) rfl rfl) hz) ?_
    simp -dsimp -implicitDefEqProofs [hO, optVG, optMG, hk, hq]
    refine callsTo Try.cal30 (markKindS_c zs 1 _ ⟨_, _, 2, 2⟩ _ (by simp; rfl) rfl rfl (by simp) hz (by decide)) ?_
    simp -dsimp -implicitDefEqProofs [hO, optVG, optMG, hk, hq]
    refine callsTo Try.cal32 (heldKindS_c zs.length 1 _ _ (RdMk.of_get zs.length (o := ⟨mkCells 2 1 zs.length, _, 2, 2⟩) (by simp; rfl) (by simp) rfl rfl) hz (by decide)) ?_
    simp -dsimp -implicitDefEqProofs [hO, optVG, optMG, hk, hq]
    refine callsTo Try.cal15 (toKindS_c xs a _ (hr0.ext _) hn0) ?_
    simp -dsimp -implicitDefEqProofs [hO, optVG, optMG, hk, hq]
    refine callsTo Try.cal25 (toInt64S_c ys b _ (hr1.ext _) hn1) ?_
    simp -dsimp -implicitDefEqProofs [hO, optVG, optMG, hk, hq]
    refine callsTo Try.cal29 (implTake_c xs ys _ _ _ _ (RdG.of_get hg2 (o := ⟨_, _, 2, 1⟩) xs (by simp; rfl) (by simp) rfl rfl) (RdI.of_get (xs := ys) (o := ⟨_, _, 1, 1⟩) (by simp; rfl) (by simp) rfl rfl) hn1 hn0) ?_
    simp -dsimp -implicitDefEqProofs [hO, optVG, optMG, hk, hq]
    refine callsTo Try.cal17 (eqKindS_c zs zs _ _ _ (RdG.of_get hg2 (o := ⟨_, _, 2, 2⟩) zs (by simp; rfl) (by simp) rfl rfl) (RdG.of_get hg2 (o := ⟨_, _, 2, 2⟩) zs (by simp; rfl) (by simp) rfl rfl) hz) ?_
    simp -dsimp -implicitDefEqProofs [hO, optVG, optMG, hk, hq]
    refine callsTo Try.cal32 (heldKindS_c zs.length 1 _ _ (RdMk.of_get zs.length (o := ⟨mkCells 2 1 zs.length, _, 2, 2⟩) (by simp; rfl) (by simp) rfl rfl) hz (by decide)) ?_
    simp -dsimp -implicitDefEqProofs [hO, optVG, optMG, hk, hq]
    exact GC.dropEq rfl rfl

set_option maxRecDepth 100000 in
theorem fnExactTakeRodsLifted (os : Os) (started : os.Started) (H : Type) (enc : TypeId × Value → H) :
    ReturnsInHanded {} Try.checked os 8 .any (Rows.fnExactTakeRodsSpec.pre6 enc Try.prog Try.f8 Rows.fnExactTakeRodsRow.domain false) (Rows.fnExactTakeRodsSpec.post enc Try.prog Try.f8 false true false false) :=
  lawLifted (C := Try.checked) [.one (.sl [I64, I64]), .one (.sl [I64])] 3 4 (by kernel_rfl) started (by kernel_rfl) Try.func8
    (ChangeSpec.witness6 (enc := enc) (C := Try.checked) false ⟨#[], #[.slice none 0 0,.slice none 0 0], []⟩ 8 (by kernel_rfl) (by kernel_rfl) (by kernel_rfl) (by kernel_rfl))
    (by kernel_rfl) (by kernel_rfl) (by kernel_rfl) rfl (by kernel_rfl) rfl (fun ds h => match ds, h with | [_, _], _ => rfl) fun m vs h => by
      obtain ⟨u0, u1, rfl, hv0, hv1⟩ := h.two
      obtain ⟨a, xs, rfl, hl0, hq0, _⟩ := CV.sl2 hv0
      obtain ⟨b, ys, rfl, hl1, hq1, _⟩ := CV.sl1 hv1
      exact ⟨_, lawTakeRods_c xs a ys b m hq0 hl0 hq1 hl1⟩

theorem fnExactTakeRodsHolds : Rows.FnExactTakeRodsSaid :=
  OpenClaim.holds_of_wide 8 Try.f8 rfl rfl rfl rfl rfl rfl rfl ⟨rfl, rfl, rfl, rfl, rfl⟩ rfl rfl rfl rfl rfl (by kernel_rfl) Try.func8 (by kernel_rfl)
    (of_decide_eq_true (by kernel_rfl)) (by unfold Func.isWrapper; first | (rw [if_pos (by decide +kernel)]; kernel_rfl) | (rw [if_neg (by decide +kernel)]; exact ⟨rfl, rfl⟩))
    (fun os started H enc _ => fnExactTakeRodsLifted os started H enc)
end Go.Proofs.Ytlhcepcgjnlopaa

