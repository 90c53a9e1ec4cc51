/-
  'FnExactOldestYear': for all arguments the program's OldestYear returns what the reference's returns, leaves its arguments as they are and returns memory of its own. Conditions: none.
-/
import Derived.Test.YtlcefchlmdffeaaHeapB
set_option linter.unusedSimpArgs false
set_option linter.unusedVariables false
set_option linter.unusedSectionVars false
namespace Go.Proofs.Ytlcefchlmdffeaa
open Go.Abs Go.RowKit

theorem lawOldestYear_c (xs : List H3) (a : Option Addr) (s : ByteArray) (m : Mem) (hr0 : RdG vh 3 m a xs) (hm0 : xs.length ≤ maxLen) (ht0 : ∀ y ∈ xs, y.1.size ≤ maxLen) (hm1 : s.size ≤ maxLen) : ACalls Try.prog 5 [.slice a xs.length xs.length, .string s] m (.bool true) m := by
  have hg3 : ∀ x, (vh x).length = 3 := fun _ => rfl
  refine acalls_of_vc Try.func5 rfl Try.fol (by kernel_rfl) ?_
  simp only [Try.f5]
  simp -dsimp -implicitDefEqProofs
  refine ⟨fun _ => GC.refl _ _ _, fun hb1 => ?_⟩
  refine callsTo Try.cal7 (szHeapS_c xs a _ _ hr0 hm0 ht0 (by decide)) ?_
  simp -dsimp -implicitDefEqProofs
  refine ⟨fun _ => GC.refl _ _ _, fun hb0 => ?_⟩
  obtain ⟨hn0', he0⟩ := leftI_ok hb0
  rw [he0]
  have hn0 : xs.length ≤ 1048576 := by omega
  refine callsTo Try.cal9 (toHeapS_c xs a _ hr0 hn0) ?_
  simp -dsimp -implicitDefEqProofs
  refine callsTo Try.cal14 (specYear_c xs s _ _ (RdG.of_get hg3 (o := ⟨_, _, 3, 1⟩) xs (by simp; rfl) (by simp) rfl rfl) hn0 ht0 hm1) ?_
  simp -dsimp -implicitDefEqProofs [yearV]
  refine callsTo Try.cal9 (toHeapS_c xs a _ (hr0.ext _) hn0) ?_
  simp -dsimp -implicitDefEqProofs [yearV]
  refine callsTo Try.cal15 (implYear_c xs s _ _ (RdG.of_get hg3 (o := ⟨_, _, 3, 1⟩) xs (by simp; rfl) (by simp) rfl rfl) hn0 ht0 hm1) ?_
  simp -dsimp -implicitDefEqProofs [yearV]
  refine callsTo Try.cal9 (toHeapS_c xs a _ (hr0.ext _) hn0) ?_
  simp -dsimp -implicitDefEqProofs [yearV]
  refine callsTo Try.cal11 (eqHeapS_c xs xs _ _ _ (RdG.of_get hg3 (o := ⟨_, _, 3, 1⟩) xs (by simp; rfl) (by simp) rfl rfl) (RdG.of_get hg3 (o := ⟨_, _, 3, 1⟩) xs (by simp; rfl) (by simp) rfl rfl) hn0) ?_
  simp -dsimp -implicitDefEqProofs [yearV]
  exact GC.dropEq rfl rfl

set_option maxRecDepth 100000 in
theorem fnExactOldestYearLifted (os : Os) (started : os.Started) (H : Type) (enc : TypeId × Value → H) :
    ReturnsInHanded {} Try.checked os 5 .any (Rows.fnExactOldestYearSpec.pre6 enc Try.prog Try.f5 Rows.fnExactOldestYearRow.domain false) (Rows.fnExactOldestYearSpec.post enc Try.prog Try.f5 false true false false) :=
  lawLifted (C := Try.checked) [.one (.sl [.str, I64, I64]), .one .str] 3 4 (by kernel_rfl) started (by kernel_rfl) Try.func5
    (ChangeSpec.witness6 (enc := enc) (C := Try.checked) false ⟨#[], #[.slice none 0 0,.string ⟨#[]⟩], []⟩ 8 (by kernel_rfl) (by kernel_rfl) (by kernel_rfl) (by kernel_rfl))
    (by kernel_rfl) (by kernel_rfl) (by kernel_rfl) rfl (by kernel_rfl) rfl (fun ds h => match ds, h with | [_, _], _ => rfl) fun m vs h => by
      obtain ⟨u0, u1, rfl, hv0, hv1⟩ := h.two
      obtain ⟨a, xs, rfl, hl0, hq0, ht0⟩ := CV.slH hv0
      obtain ⟨s, rfl, hl1⟩ := CV.strg hv1
      exact ⟨_, lawOldestYear_c xs a s m hq0 hl0 ht0 hl1⟩

theorem fnExactOldestYearHolds : Rows.FnExactOldestYearSaid :=
  OpenClaim.holds_of_wide 5 Try.f5 rfl rfl rfl rfl rfl rfl rfl ⟨rfl, rfl, rfl, rfl, rfl⟩ rfl rfl rfl rfl rfl (by kernel_rfl) Try.func5 (by kernel_rfl)
    (of_decide_eq_true (by kernel_rfl)) (by unfold Func.isWrapper; first | (rw [if_pos (by decide +kernel)]; kernel_rfl) | (rw [if_neg (by decide +kernel)]; exact ⟨rfl, rfl⟩))
    (fun os started H enc _ => fnExactOldestYearLifted os started H enc)
end Go.Proofs.Ytlcefchlmdffeaa

