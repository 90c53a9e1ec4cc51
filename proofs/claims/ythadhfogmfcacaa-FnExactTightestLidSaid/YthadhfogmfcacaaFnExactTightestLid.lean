/-
  'FnExactTightestLid': for all arguments the program's TightestLid returns what the reference's returns, leaves its arguments as they are and returns memory of its own. Conditions: none.
-/
import Derived.Test.YthadhfogmfcacaaLidB
set_option linter.unusedSimpArgs false
set_option linter.unusedVariables false
namespace Go.Proofs.Ythadhfogmfcacaa
open Go.Abs Go.RowKit

theorem lawTightestLid_c (xs : List I3) (a : Option Addr) (w : Int) (s : Int) (m : Mem) (hr0 : RdG v3 3 m a xs) (hm0 : xs.length ≤ maxLen) : ACalls Try.prog 6 [.slice a xs.length xs.length, .int .i64 w, .int .i64 s] m (.bool true) m := by
  have hg3 : ∀ x, (v3 x).length = 3 := fun _ => rfl
  refine acalls_of_vc Try.func6 rfl Try.fol (by kernel_rfl) ?_
  simp only [Try.f6]
  simp -dsimp -implicitDefEqProofs
  refine callsTo Try.cal16 (szLidS_c a _ _ _ hm0 (by decide)) ?_
  simp -dsimp -implicitDefEqProofs
  refine ⟨fun _ => GC.refl _ _ _, fun hb0 => ?_⟩
  obtain ⟨hn0', he0⟩ := leftI_ok hb0
  rw [he0]
  have hn0 : xs.length ≤ 1048576 := by omega
  refine callsTo Try.cal18 (toLidS_c xs a _ hr0 hn0) ?_
  simp -dsimp -implicitDefEqProofs
  refine callsTo Try.cal21 (specTight_c xs _ w s _ (RdG.of_get hg3 (o := ⟨_, _, 3, 1⟩) xs (by simp; rfl) (by simp) rfl rfl) hn0) ?_
  simp -dsimp -implicitDefEqProofs [tightV]
  refine callsTo Try.cal18 (toLidS_c xs a _ (hr0.ext _) hn0) ?_
  simp -dsimp -implicitDefEqProofs [tightV]
  refine callsTo Try.cal22 (implTight_c xs _ w s _ (RdG.of_get hg3 (o := ⟨_, _, 3, 1⟩) xs (by simp; rfl) (by simp) rfl rfl) hn0) ?_
  simp -dsimp -implicitDefEqProofs [tightV]
  refine callsTo Try.cal18 (toLidS_c xs a _ (hr0.ext _) hn0) ?_
  simp -dsimp -implicitDefEqProofs [tightV]
  refine callsTo Try.cal20 (eqLidS_c xs xs _ _ _ (RdG.of_get hg3 (o := ⟨_, _, 3, 1⟩) xs (by simp; rfl) (by simp) rfl rfl) (RdG.of_get hg3 (o := ⟨_, _, 3, 1⟩) xs (by simp; rfl) (by simp) rfl rfl) hn0) ?_
  simp -dsimp -implicitDefEqProofs [tightV]
  exact GC.dropEq rfl rfl

set_option maxRecDepth 100000 in
theorem fnExactTightestLidLifted (os : Os) (started : os.Started) (H : Type) (enc : TypeId × Value → H) :
    ReturnsInHanded {} Try.checked os 6 .any (Rows.fnExactTightestLidSpec.pre6 enc Try.prog Try.f6 Rows.fnExactTightestLidRow.domain false) (Rows.fnExactTightestLidSpec.post enc Try.prog Try.f6 false true false false) :=
  lawLifted (C := Try.checked) [.one (.sl [I64, I64, I64]), .one I64, .one I64] 3 4 (by kernel_rfl) started (by kernel_rfl) Try.func6
    (ChangeSpec.witness6 (enc := enc) (C := Try.checked) false ⟨#[], #[.slice none 0 0,.int .i64 0,.int .i64 0], []⟩ 8 (by kernel_rfl) (by kernel_rfl) (by kernel_rfl) (by kernel_rfl))
    (by kernel_rfl) (by kernel_rfl) (by kernel_rfl) rfl (by kernel_rfl) rfl (fun ds h => match ds, h with | [_, _, _], _ => rfl) fun m vs h => by
      obtain ⟨u0, u1, u2, rfl, hv0, hv1, hv2⟩ := h.three
      obtain ⟨a, xs, rfl, hl0, hq0, _⟩ := CV.sl3 hv0
      obtain ⟨w, rfl, hi1⟩ := CV.int hv1
      obtain ⟨s, rfl, hi2⟩ := CV.int hv2
      exact ⟨_, lawTightestLid_c xs a w s m hq0 hl0⟩

theorem fnExactTightestLidHolds : Rows.FnExactTightestLidSaid :=
  OpenClaim.holds_of_wide 6 Try.f6 rfl rfl rfl rfl rfl rfl rfl ⟨rfl, rfl, rfl, rfl, rfl⟩ rfl rfl rfl rfl rfl (by kernel_rfl) Try.func6 (by kernel_rfl)
    (of_decide_eq_true (by kernel_rfl)) (by unfold Func.isWrapper; first | (rw [if_pos (by decide +kernel)]; kernel_rfl) | (rw [if_neg (by decide +kernel)]; exact ⟨rfl, rfl⟩))
    (fun os started H enc _ => fnExactTightestLidLifted os started H enc)
end Go.Proofs.Ythadhfogmfcacaa

