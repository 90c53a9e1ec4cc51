/-
  'FnExactRoundsFrom': for all arguments the program's RoundsFrom returns what the reference's returns, leaves its arguments as they are and returns memory of its own. Conditions: none.
-/
import Derived.Test.YtlhcepcgjnlopaaKinC
namespace Go.Proofs.Ytlhcepcgjnlopaa
open Go.Abs Go.RowKit

theorem lawRoundsFrom_c (xs : List I2) (a : Option Addr) (n : Int) (m : Mem) (hr0 : RdG v2 2 m a xs) (hm0 : xs.length ≤ maxLen) : ACalls Try.prog 6 [.slice a xs.length xs.length, .int .i64 n] m (.bool true) m := by
  have hg2 : ∀ x, (v2 x).length = 2 := fun _ => rfl
  refine acalls_of_vc Try.func6 rfl Try.fol (by kernel_rfl) ?_
  simp only [Try.f6]
  simp -dsimp -implicitDefEqProofs
  refine callsTo Try.cal13 (szKindS_c a _ _ _ hm0 (by decide)) ?_
  simp -dsimp -implicitDefEqProofs
  refine ⟨fun _ => GC.refl _ _ _, fun hb0 => ?_⟩
  obtain ⟨hn0', he0⟩ := leftI_ok hb0
  rw [he0]
  have hn0 : xs.length ≤ 1048576 := by omega
  refine callsTo Try.cal15 (toKindS_c xs a _ hr0 hn0) ?_
  simp -dsimp -implicitDefEqProofs
  refine callsTo Try.cal22 (specRounds_c xs _ n _ (RdG.of_get hg2 (o := ⟨_, _, 2, 1⟩) xs (by simp; rfl) (by simp) rfl rfl) hn0) ?_
  simp -dsimp -implicitDefEqProofs [roundsV]
  refine callsTo Try.cal15 (toKindS_c xs a _ (hr0.ext _) hn0) ?_
  simp -dsimp -implicitDefEqProofs [roundsV]
  refine callsTo Try.cal23 (implRounds_c xs _ n _ (RdG.of_get hg2 (o := ⟨_, _, 2, 1⟩) xs (by simp; rfl) (by simp) rfl rfl) hn0) ?_
  simp -dsimp -implicitDefEqProofs [roundsV]
  refine callsTo Try.cal15 (toKindS_c xs a _ (hr0.ext _) hn0) ?_
  simp -dsimp -implicitDefEqProofs [roundsV]
  refine callsTo Try.cal17 (eqKindS_c xs xs _ _ _ (RdG.of_get hg2 (o := ⟨_, _, 2, 1⟩) xs (by simp; rfl) (by simp) rfl rfl) (RdG.of_get hg2 (o := ⟨_, _, 2, 1⟩) xs (by simp; rfl) (by simp) rfl rfl) hn0) ?_
  simp -dsimp -implicitDefEqProofs [roundsV]
  exact GC.dropEq rfl rfl

set_option maxRecDepth 100000 in
theorem fnExactRoundsFromLifted (os : Os) (started : os.Started) (H : Type) (enc : TypeId × Value → H) :
    ReturnsInHanded {} Try.checked os 6 .any (Rows.fnExactRoundsFromSpec.pre6 enc Try.prog Try.f6 Rows.fnExactRoundsFromRow.domain false) (Rows.fnExactRoundsFromSpec.post enc Try.prog Try.f6 false true false false) :=
  lawLifted (C := Try.checked) [.one (.sl [I64, I64]), .one I64] 3 4 (by kernel_rfl) started (by kernel_rfl) Try.func6
    (ChangeSpec.witness6 (enc := enc) (C := Try.checked) false ⟨#[], #[.slice none 0 0,.int .i64 0], []⟩ 8 (by kernel_rfl) (by kernel_rfl) (by kernel_rfl) (by kernel_rfl))
    (by kernel_rfl) (by kernel_rfl) (by kernel_rfl) rfl (by kernel_rfl) rfl (fun ds h => match ds, h with | [_, _], _ => rfl) fun m vs h => by
      obtain ⟨u0, u1, rfl, hv0, hv1⟩ := h.two
      obtain ⟨a, xs, rfl, hl0, hq0, _⟩ := CV.sl2 hv0
      obtain ⟨n, rfl, hi1⟩ := CV.int hv1
      exact ⟨_, lawRoundsFrom_c xs a n m hq0 hl0⟩

theorem fnExactRoundsFromHolds : Rows.FnExactRoundsFromSaid :=
  OpenClaim.holds_of_wide 6 Try.f6 rfl rfl rfl rfl rfl rfl rfl ⟨rfl, rfl, rfl, rfl, rfl⟩ rfl rfl rfl rfl rfl (by kernel_rfl) Try.func6 (by kernel_rfl)
    (of_decide_eq_true (by kernel_rfl)) (by unfold Func.isWrapper; first | (rw [if_pos (by decide +kernel)]; kernel_rfl) | (rw [if_neg (by decide +kernel)]; exact ⟨rfl, rfl⟩))
    (fun os started H enc _ => fnExactRoundsFromLifted os started H enc)
end Go.Proofs.Ytlhcepcgjnlopaa

