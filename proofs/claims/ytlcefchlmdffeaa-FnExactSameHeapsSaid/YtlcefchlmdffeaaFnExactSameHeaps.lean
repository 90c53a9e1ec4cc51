/-
  'FnExactSameHeaps': for all arguments the program's SameHeaps returns what the reference's returns, leaves its arguments as they are and returns memory of its own. Conditions: none.
-/
import Derived.Test.YtlcefchlmdffeaaHeapB
set_option linter.unusedSimpArgs false
set_option linter.unusedVariables false
set_option linter.unusedSectionVars false
namespace Go.Proofs.Ytlcefchlmdffeaa
open Go.Abs Go.RowKit

theorem lawSameHeaps_c (xs : List H3) (a : Option Addr) (ys : List H3) (b : Option Addr) (m : Mem) (hr0 : RdG vh 3 m a xs) (hm0 : xs.length ≤ maxLen) (ht0 : ∀ y ∈ xs, y.1.size ≤ maxLen) (hr1 : RdG vh 3 m b ys) (hm1 : ys.length ≤ maxLen) (ht1 : ∀ y ∈ ys, y.1.size ≤ maxLen) : ACalls Try.prog 3 [.slice a xs.length xs.length, .slice b ys.length ys.length] m (.bool true) m := by
  have hg3 : ∀ x, (vh x).length = 3 := fun _ => rfl
  refine acalls_of_vc Try.func3 rfl Try.fol (by kernel_rfl) ?_
  simp only [Try.f3]
  simp -dsimp -implicitDefEqProofs
  refine callsTo Try.cal7 (szHeapS_c xs a _ _ hr0 hm0 ht0 (by decide)) ?_
  simp -dsimp -implicitDefEqProofs
  refine ⟨fun _ => GC.refl _ _ _, fun hb0 => ?_⟩
  obtain ⟨hn0', he0⟩ := leftI_ok hb0
  rw [he0]
  have hn0 : xs.length ≤ 1048576 := by omega
  refine callsTo Try.cal7 (szHeapS_c ys b _ _ hr1 hm1 ht1 (by omega)) ?_
  simp -dsimp -implicitDefEqProofs
  refine ⟨fun _ => GC.refl _ _ _, fun hb1 => ?_⟩
  obtain ⟨hn1', he1⟩ := leftI_ok hb1
  rw [he1]
  have hn1 : ys.length ≤ 1048576 := by omega
  refine callsTo Try.cal9 (toHeapS_c xs a _ hr0 hn0) ?_
  simp -dsimp -implicitDefEqProofs
  refine callsTo Try.cal9 (toHeapS_c ys b _ (hr1.ext _) hn1) ?_
  simp -dsimp -implicitDefEqProofs
  refine callsTo Try.cal8 (specSame_c xs ys _ _ _ (RdG.of_get hg3 (o := ⟨_, _, 3, 1⟩) xs (by simp; rfl) (by simp) rfl rfl) (RdG.of_get hg3 (o := ⟨_, _, 3, 1⟩) ys (by simp; rfl) (by simp) rfl rfl) hn0) ?_
  simp -dsimp -implicitDefEqProofs
  refine callsTo Try.cal9 (toHeapS_c xs a _ (hr0.ext _) hn0) ?_
  simp -dsimp -implicitDefEqProofs
  refine callsTo Try.cal9 (toHeapS_c ys b _ (hr1.ext _) hn1) ?_
  simp -dsimp -implicitDefEqProofs
  refine callsTo Try.cal10 (implSame_c xs ys _ _ _ (RdG.of_get hg3 (o := ⟨_, _, 3, 1⟩) xs (by simp; rfl) (by simp) rfl rfl) (RdG.of_get hg3 (o := ⟨_, _, 3, 1⟩) ys (by simp; rfl) (by simp) rfl rfl) hn0) ?_
  simp -dsimp -implicitDefEqProofs
  refine callsTo Try.cal9 (toHeapS_c xs a _ (hr0.ext _) hn0) ?_
  simp -dsimp -implicitDefEqProofs
  refine callsTo Try.cal11 (eqHeapS_c xs xs _ _ _ (RdG.of_get hg3 (o := ⟨_, _, 3, 1⟩) xs (by simp; rfl) (by simp) rfl rfl) (RdG.of_get hg3 (o := ⟨_, _, 3, 1⟩) xs (by simp; rfl) (by simp) rfl rfl) hn0) ?_
  simp -dsimp -implicitDefEqProofs
  refine callsTo Try.cal9 (toHeapS_c ys b _ (hr1.ext _) hn1) ?_
  simp -dsimp -implicitDefEqProofs
  refine callsTo Try.cal11 (eqHeapS_c ys ys _ _ _ (RdG.of_get hg3 (o := ⟨_, _, 3, 1⟩) ys (by simp; rfl) (by simp) rfl rfl) (RdG.of_get hg3 (o := ⟨_, _, 3, 1⟩) ys (by simp; rfl) (by simp) rfl rfl) hn1) ?_
  simp -dsimp -implicitDefEqProofs
  exact GC.dropEq rfl rfl

set_option maxRecDepth 100000 in
theorem fnExactSameHeapsLifted (os : Os) (started : os.Started) (H : Type) (enc : TypeId × Value → H) :
    ReturnsInHanded {} Try.checked os 3 .any (Rows.fnExactSameHeapsSpec.pre6 enc Try.prog Try.f3 Rows.fnExactSameHeapsRow.domain false) (Rows.fnExactSameHeapsSpec.post enc Try.prog Try.f3 false true false false) :=
  lawLifted (C := Try.checked) [.one (.sl [.str, I64, I64]), .one (.sl [.str, I64, I64])] 3 4 (by kernel_rfl) started (by kernel_rfl) Try.func3
    (ChangeSpec.witness6 (enc := enc) (C := Try.checked) false ⟨#[], #[.slice none 0 0,.slice none 0 0], []⟩ 8 (by kernel_rfl) (by kernel_rfl) (by kernel_rfl) (by kernel_rfl))
    (by kernel_rfl) (by kernel_rfl) (by kernel_rfl) rfl (by kernel_rfl) rfl (fun ds h => match ds, h with | [_, _], _ => rfl) fun m vs h => by
      obtain ⟨u0, u1, rfl, hv0, hv1⟩ := h.two
      obtain ⟨a, xs, rfl, hl0, hq0, ht0⟩ := CV.slH hv0
      obtain ⟨b, ys, rfl, hl1, hq1, ht1⟩ := CV.slH hv1
      exact ⟨_, lawSameHeaps_c xs a ys b m hq0 hl0 ht0 hq1 hl1 ht1⟩

theorem fnExactSameHeapsHolds : Rows.FnExactSameHeapsSaid :=
  OpenClaim.holds_of_wide 3 Try.f3 rfl rfl rfl rfl rfl rfl rfl ⟨rfl, rfl, rfl, rfl, rfl⟩ rfl rfl rfl rfl rfl (by kernel_rfl) Try.func3 (by kernel_rfl)
    (of_decide_eq_true (by kernel_rfl)) (by unfold Func.isWrapper; first | (rw [if_pos (by decide +kernel)]; kernel_rfl) | (rw [if_neg (by decide +kernel)]; exact ⟨rfl, rfl⟩))
    (fun os started H enc _ => fnExactSameHeapsLifted os started H enc)
end Go.Proofs.Ytlcefchlmdffeaa

